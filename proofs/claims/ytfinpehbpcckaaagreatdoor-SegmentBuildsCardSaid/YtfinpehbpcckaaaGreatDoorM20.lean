/- Layer 34: the reference's put and places. Layer 33: the reference's With, Union, Docs, Of. Layer 33: the reference's Union, Docs, Of, Or. -/
import Derived.IntWalk
import Derived.Deep.RegionHeld3
import Derived.Test.YtfinpehbpcckaaaGreatDoorM19
import Derived.Test.YtfinpehbpcckaaaGreatDoorM17
import Derived.Test.YtfinpehbpcckaaaGreatDoorM09
import Derived.Test.YtfinpehbpcckaaaGreatDoorM14
import Derived.Test.YtfinpehbpcckaaaGreatDoorM10
section
namespace Go.Proofs.YtfinpehbpcckaaaGreatDoor
open Go.RowKit
set_option linter.unusedVariables false

theorem withP_at : ∀ (l : List Int) (n : Int) (k : Nat), l.Pairwise (· < ·) → k ≤ l.length → (∀ x, x ∈ l.take k → x < n) → (∀ h : k < l.length, n ≤ l[k]) →
    (∀ h : k < l.length, l[k] = n → withP l n = l) ∧ ((∀ h : k < l.length, l[k] ≠ n) → withP l n = l.take k ++ n :: l.drop k)
  | [], n, k, _, hk, _, _ => by
    have : k = 0 := by simpa using hk
    subst this
    exact ⟨fun h => by simp at h, fun _ => rfl⟩
  | x :: r, n, 0, ha, _, _, hn => by
    have h0 := hn (by simp)
    rw [List.getElem_cons_zero] at h0
    constructor
    · intro _ e
      rw [List.getElem_cons_zero] at e
      rw [withP_cons _ _ _ ha, if_neg (by omega), if_pos e.symm]
    · intro hne
      have := hne (by simp)
      rw [List.getElem_cons_zero] at this
      rw [withP_cons _ _ _ ha, if_pos (by omega)]
      rfl
  | x :: r, n, k + 1, ha, hk, hl, hn => by
    have hx : x < n := hl x (by simp)
    have ha2 := ha
    rw [List.pairwise_cons] at ha2
    have hk2 : k ≤ r.length := by simpa using hk
    obtain ⟨h1, h2⟩ := withP_at r n k ha2.2 hk2 (fun y hy => hl y (by rw [List.take_succ_cons]; simp [hy])) (fun h => by have := hn (by simpa using h); simpa using this)
    rw [withP_cons _ _ _ ha, if_neg (by omega), if_neg (by omega)]
    constructor
    · intro h e
      rw [h1 (by simpa using h) (by simpa using e)]
    · intro hne
      rw [h2 fun h => by have := hne (by simpa using h); simpa using this]
      rfl
theorem Ints.cutA {w : World} {B : Nat} {A : Option Addr} {m : Nat} {l : List Int} (h : Ints w B A m l) (k : Nat) (hk : k ≤ m) : Ints w B A k (l.take k) := by
  refine ⟨by rw [List.length_take, h.len]; omega, fun x hx => h.2.1 x (List.mem_of_mem_take hx), ?_⟩
  have := h.2.2.take k
  unfold iv at this ⊢
  rwa [List.map_take]
theorem Ints.cutB {w : World} {B : Nat} {ad : Addr} {m : Nat} {l : List Int} (h : Ints w B (some ad) m l) (k : Nat) (hk : k ≤ m) : Ints w B (some (ad.add k)) (m - k) (l.drop k) := by
  refine ⟨by rw [List.length_drop, h.len], fun x hx => h.2.1 x (List.mem_of_mem_drop hx), ?_⟩
  rcases h.2.2 with h1 | ⟨ad2, e, hb, hc⟩
  · left
    unfold iv at h1 ⊢
    rw [List.map_drop, h1, List.drop_nil]
  · injection e with e
    subst e
    refine .inr ⟨_, rfl, by rw [add_block]; exact hb, fun j u hu => ?_⟩
    rw [add_add']
    refine hc _ u ?_
    rw [← hu]
    unfold iv
    rw [List.getElem?_map, List.getElem?_map, List.getElem?_drop]
def PutPost (w : World) (B : Nat) (l : List Int) (n : Int) (e : Ending) (w' : World) : Prop := ∃ v', e = .returned v' ∧ OwnInts w' B v' (withP l n) ∧ Below w.heap.size w w'
set_option maxRecDepth 100000 in
set_option maxHeartbeats 4000000 in
theorem rput_any (v : Value) (l : List Int) (n : Int) (B : Nat) (w : World) (h : OwnInts w B v l) (hB : B ≤ w.heap.size) (ha : l.Pairwise (· < ·)) (hn : -9223372036854775808 ≤ n ∧ n ≤ 9223372036854775807) (hl : l.length ≤ 1000000000) :
    Calls Tryz.prog 40 #[v, .int .i64 n] w (PutPost w B l n) := by
  obtain ⟨A, c, rfl, hc1, hc2, hi⟩ := h.ints
  have H := Lib.hid h
  have HI := Lib.hid hi
  have HA := Lib.hid ha
  have HL := Lib.hid hl
  obtain ⟨m, hm⟩ : ∃ m, l.length = m := ⟨_, rfl⟩
  have HM := Lib.hid hm
  rw [hm] at H HI hc1 hl ⊢
  clear h hi ha hm
  go_enter Tryz.func40, Tryz.ntmps40
  go_wp2
  go_loopw [5] (fun i wr => ∃ k : Nat, k ≤ m ∧ i = .int .i64 (k : Int) ∧ wr = w ∧ Hid (∀ y, y ∈ l.take k → y < n)) (fun i _ => m - (intOf i).toNat)
  case atStart => exact ⟨0, Nat.zero_le _, rfl, rfl, fun y hy => by simp at hy⟩
  case round =>
    obtain ⟨k, hk, rfl, rfl, HT⟩ := hrel
    by_cases hlt : k < m
    · have hk2 : decide ((k : Int) < m) = true := decide_eq_true (by omega)
      have hk3 : (k : Int) < m := by omega
      have hkl : k < l.length := by rw [HM.out]; exact hlt
      obtain ⟨ad, rfl, hb, hc⟩ := HI.out.at_ hlt
      rw [gi_get hkl] at hc
      have HTK := Lib.hid (show l.take (k + 1) = l.take k ++ [l[k]] from List.take_succ_eq_append_getElem hkl)
      have HW := Lib.hid (withP_at l n k HA.out (by omega) HT.out)
      by_cases hy : l[k] < n
      · obtain ⟨y, hye⟩ : ∃ y, l[k] = y := ⟨_, rfl⟩
        rw [hye] at hc HTK hy
        have e1 : decide (y < n) = true := decide_eq_true hy
        clear hye hkl HW
        go_wp2
        go_roundw
        case rel =>
          refine ⟨k + 1, by omega, by go_num, trivial, fun z hz => ?_⟩
          rw [HTK.out] at hz
          rcases List.mem_append.1 hz with hz | hz
          · exact HT.out z hz
          · rw [List.mem_singleton] at hz; subst hz; exact hy
        case measure => simp [intOf] <;> omega
      · by_cases he : l[k] = n
        · have HR := Lib.hid ((HW.out (fun _ => by omega)).1 hkl he)
          rw [he] at hc
          clear hkl HW HTK hy he
          go_wp2
          go_ret
          exact ⟨_, rfl, by rw [HR.out]; exact H.out, Below.refl _ _⟩
        · have HR := Lib.hid ((HW.out (fun _ => by omega)).2 (fun _ => he))
          have e1 : decide (l[k] < n) = false := decide_eq_false hy
          have e2 : (l[k] == n) = false := by simpa using he
          obtain ⟨y, hye⟩ : ∃ y, l[k] = y := ⟨_, rfl⟩
          rw [hye] at hc e1 e2
          clear hye hkl HW HTK hy he
          have hkc : (k : Int) ≤ c := by omega
          have HI1 := Lib.hid (HI.out.cutA k (by omega))
          have hl1 : (([] : List Int).length + k) * 8 ≤ 140737488355328 := by simp; omega
          have HNIL := Lib.hid (OwnInts.nil_ wr wr.heap.size)
          have hkm9 : k ≠ c := by omega
          go_wp2_with (first
            | (at_builtin; (refine wpList_join HNIL.out (Nat.le_refl _) HI1.out hl1 rfl (.tmp 34) (.tmp 37) 26 _ rfl Tryz.underlying26 rfl rfl ?_; intro v1 w1 hown1 hg1 hat1); (
                obtain ⟨A1, c1, rfl, -, -, -⟩ := hown1.ints
                have H1 := Lib.hid hown1
                have HG1 := Lib.hid (show Below wr.heap.size wr w1 from (Below.refl _ _).grown hg1 (Nat.le_refl _) (fun i e => by cases e))
                have hl2 : ([] ++ l.take k : List Int).length = k := by rw [List.nil_append, List.length_take, HM.out]; omega
                rw [hl2] at H1 ⊢
                have hB1 : wr.heap.size ≤ w1.heap.size := hg1.size
                have hal : ([] ++ l.take k : List Int).length < 1099511627776 := by rw [hl2]; omega
                have HAL := Lib.hid hal
                clear hown1 hg1 hat1 hl2 hal HNIL))
            | (at_builtin; (refine wpList_push H1.out hB1 hn HAL.out rfl (.tmp 39) (.tmp 41) 26 1 rfl Tryz.underlying26 rfl rfl ?_; intro v2 w2 hown2 hg2 hat2); (
                obtain ⟨A2, c2, rfl, -, -, -⟩ := hown2.ints
                have H2 := Lib.hid hown2
                have HG2 := Lib.hid (show Below wr.heap.size wr w2 from HG1.out.grown hg2 (by have := HG1.out.size; omega) fun i e => H1.out.base i e)
                have hl3 : (([] ++ l.take k) ++ [n] : List Int).length = k + 1 := by rw [List.length_append, List.nil_append, List.length_take, HM.out, List.length_singleton]; omega
                rw [hl3] at H2 ⊢
                have hB2 : wr.heap.size ≤ w2.heap.size := HG2.out.size
                have hal : ((([] ++ l.take k) ++ [n] : List Int).length + (m - k)) * 8 ≤ 140737488355328 := by rw [hl3]; omega
                have HAL2 := Lib.hid hal
                have HI2 := Lib.hid (show Ints w2 wr.heap.size (some (ad.add k)) (m - k) (l.drop k) from (HI.out.cutB k (by omega)).below HG2.out)
                clear hown2 hg2 hat2 hl3 hal H1))
            | (at_builtin; (refine wpList_join H2.out hB2 HI2.out HAL2.out rfl (.tmp 43) (.tmp 46) 26 (c - k) rfl Tryz.underlying26 rfl rfl ?_; intro v3 w3 hown3 hg3 hat3); (
                obtain ⟨A3, c3, rfl, -, -, -⟩ := hown3.ints
                have H3 := Lib.hid hown3
                have hl4 : (([] ++ l.take k) ++ [n] ++ l.drop k : List Int).length = m + 1 := by rw [List.length_append, List.length_append, List.nil_append, List.length_take, HM.out, List.length_singleton, List.length_drop, HM.out]; omega
                rw [hl4] at H3 ⊢
                have HG3 := Lib.hid (show Below wr.heap.size wr w3 from HG2.out.grown hg3 (by have := HG2.out.size; omega) fun i e => H2.out.base i e)
                clear hown3 hg3 hat3 H2 hl4)))
          go_ret
          refine ⟨_, rfl, ?_, HG3.out⟩
          rw [HR.out]
          have h3 := H3.out
          rw [List.nil_append, List.append_assoc] at h3
          exact h3.more hB
    · have hkm : k = m := by omega
      subst hkm
      have HR := Lib.hid ((withP_at l n k HA.out (by rw [HM.out]; exact Nat.le_refl _) HT.out (fun h => by rw [HM.out] at h; omega)).2 (fun h => by rw [HM.out] at h; omega))
      have hk2 : decide ((k : Int) < k) = false := decide_eq_false (by omega)
      by_cases hkc : k = c
      · subst hkc
        have HI1 := Lib.hid (HI.out.cutA k (Nat.le_refl _))
        have hl1 : (([] : List Int).length + k) * 8 ≤ 140737488355328 := by simp; omega
        have HNIL := Lib.hid (OwnInts.nil_ wr wr.heap.size)
        go_wp2_with (first
          | (at_builtin; (refine wpList_join HNIL.out (Nat.le_refl _) HI1.out hl1 rfl (.tmp 34) (.tmp 37) 26 _ rfl Tryz.underlying26 rfl rfl ?_; intro v1 w1 hown1 hg1 hat1); (
              obtain ⟨A1, c1, rfl, -, -, -⟩ := hown1.ints
              have H1 := Lib.hid hown1
              have HG1 := Lib.hid (show Below wr.heap.size wr w1 from (Below.refl _ _).grown hg1 (Nat.le_refl _) (fun i e => by cases e))
              have hl2 : ([] ++ l.take k : List Int).length = k := by rw [List.nil_append, List.length_take, HM.out]; omega
              rw [hl2] at H1 ⊢
              have hB1 : wr.heap.size ≤ w1.heap.size := hg1.size
              have hal : ([] ++ l.take k : List Int).length < 1099511627776 := by rw [hl2]; omega
              have HAL := Lib.hid hal
              clear hown1 hg1 hat1 hl2 hal HNIL))
          | (at_builtin; (refine wpList_push H1.out hB1 hn HAL.out rfl (.tmp 39) (.tmp 41) 26 1 rfl Tryz.underlying26 rfl rfl ?_; intro v2 w2 hown2 hg2 hat2); (
              obtain ⟨A2, c2, rfl, -, -, -⟩ := hown2.ints
              have H2 := Lib.hid hown2
              have HG2 := Lib.hid (show Below wr.heap.size wr w2 from HG1.out.grown hg2 (by have := HG1.out.size; omega) fun i e => H1.out.base i e)
              have hl3 : (([] ++ l.take k) ++ [n] : List Int).length = k + 1 := by rw [List.length_append, List.nil_append, List.length_take, HM.out, List.length_singleton]; omega
              rw [hl3] at H2 ⊢
              have hB2 : wr.heap.size ≤ w2.heap.size := HG2.out.size
              have hal : ((([] ++ l.take k) ++ [n] : List Int).length + 0) * 8 ≤ 140737488355328 := by rw [hl3]; omega
              have HAL2 := Lib.hid hal
              have HI2 := Lib.hid (fun (A : Option Addr) => show Ints w2 wr.heap.size A 0 (l.drop k) by rw [List.drop_of_length_le (by rw [HM.out]; exact Nat.le_refl _)]; exact ⟨rfl, (fun x hx => by cases hx), .inl rfl⟩)
              clear hown2 hg2 hat2 hl3 hal H1))
          | (at_builtin; (refine wpList_join H2.out hB2 (HI2.out _) HAL2.out rfl (.tmp 43) (.tmp 46) 26 _ rfl Tryz.underlying26 rfl rfl ?_; intro v3 w3 hown3 hg3 hat3); (
              obtain ⟨A3, c3, rfl, -, -, -⟩ := hown3.ints
              have H3 := Lib.hid hown3
              have hl4 : (([] ++ l.take k) ++ [n] ++ l.drop k : List Int).length = k + 1 := by rw [List.length_append, List.length_append, List.nil_append, List.length_take, HM.out, List.length_singleton, List.length_drop, HM.out]; omega
              rw [hl4] at H3 ⊢
              have HG3 := Lib.hid (show Below wr.heap.size wr w3 from HG2.out.grown hg3 (by have := HG2.out.size; omega) fun i e => H2.out.base i e)
              clear hown3 hg3 hat3 H2 hl4)))
        go_ret
        refine ⟨_, rfl, ?_, HG3.out⟩
        rw [HR.out]
        have h3 := H3.out
        rw [List.nil_append, List.append_assoc] at h3
        exact h3.more hB
      · have hkm9 : (k : Int) ≤ c := by omega
        have HI1 := Lib.hid (HI.out.cutA k (Nat.le_refl _))
        have hl1 : (([] : List Int).length + k) * 8 ≤ 140737488355328 := by simp; omega
        have HNIL := Lib.hid (OwnInts.nil_ wr wr.heap.size)
        go_wp2_with (first
          | (at_builtin; (refine wpList_join HNIL.out (Nat.le_refl _) HI1.out hl1 rfl (.tmp 34) (.tmp 37) 26 _ rfl Tryz.underlying26 rfl rfl ?_; intro v1 w1 hown1 hg1 hat1); (
              obtain ⟨A1, c1, rfl, -, -, -⟩ := hown1.ints
              have H1 := Lib.hid hown1
              have HG1 := Lib.hid (show Below wr.heap.size wr w1 from (Below.refl _ _).grown hg1 (Nat.le_refl _) (fun i e => by cases e))
              have hl2 : ([] ++ l.take k : List Int).length = k := by rw [List.nil_append, List.length_take, HM.out]; omega
              rw [hl2] at H1 ⊢
              have hB1 : wr.heap.size ≤ w1.heap.size := hg1.size
              have hal : ([] ++ l.take k : List Int).length < 1099511627776 := by rw [hl2]; omega
              have HAL := Lib.hid hal
              clear hown1 hg1 hat1 hl2 hal HNIL))
          | (at_builtin; (refine wpList_push H1.out hB1 hn HAL.out rfl (.tmp 39) (.tmp 41) 26 1 rfl Tryz.underlying26 rfl rfl ?_; intro v2 w2 hown2 hg2 hat2); (
              obtain ⟨A2, c2, rfl, -, -, -⟩ := hown2.ints
              have H2 := Lib.hid hown2
              have HG2 := Lib.hid (show Below wr.heap.size wr w2 from HG1.out.grown hg2 (by have := HG1.out.size; omega) fun i e => H1.out.base i e)
              have hl3 : (([] ++ l.take k) ++ [n] : List Int).length = k + 1 := by rw [List.length_append, List.nil_append, List.length_take, HM.out, List.length_singleton]; omega
              rw [hl3] at H2 ⊢
              have hB2 : wr.heap.size ≤ w2.heap.size := HG2.out.size
              have hal : ((([] ++ l.take k) ++ [n] : List Int).length + 0) * 8 ≤ 140737488355328 := by rw [hl3]; omega
              have HAL2 := Lib.hid hal
              have HI2 := Lib.hid (fun (A : Option Addr) => show Ints w2 wr.heap.size A 0 (l.drop k) by rw [List.drop_of_length_le (by rw [HM.out]; exact Nat.le_refl _)]; exact ⟨rfl, (fun x hx => by cases hx), .inl rfl⟩)
              clear hown2 hg2 hat2 hl3 hal H1))
          | (at_builtin; (refine wpList_join H2.out hB2 (HI2.out _) HAL2.out rfl (.tmp 43) (.tmp 46) 26 _ rfl Tryz.underlying26 rfl rfl ?_; intro v3 w3 hown3 hg3 hat3); (
              obtain ⟨A3, c3, rfl, -, -, -⟩ := hown3.ints
              have H3 := Lib.hid hown3
              have hl4 : (([] ++ l.take k) ++ [n] ++ l.drop k : List Int).length = k + 1 := by rw [List.length_append, List.length_append, List.nil_append, List.length_take, HM.out, List.length_singleton, List.length_drop, HM.out]; omega
              rw [hl4] at H3 ⊢
              have HG3 := Lib.hid (show Below wr.heap.size wr w3 from HG2.out.grown hg3 (by have := HG2.out.size; omega) fun i e => H2.out.base i e)
              clear hown3 hg3 hat3 H2 hl4)))
        go_ret
        refine ⟨_, rfl, ?_, HG3.out⟩
        rw [HR.out]
        have h3 := H3.out
        rw [List.nil_append, List.append_assoc] at h3
        exact h3.more hB
end Go.Proofs.YtfinpehbpcckaaaGreatDoor
end
section
namespace Go.Proofs.YtfinpehbpcckaaaGreatDoor
open Go.RowKit
set_option linter.unusedVariables false

theorem withL_snoc {n : Int} {l : List Int} {k : Nat} (hk : k < l.length) (acc : List Int) (done : Bool) : withL n acc done (l.drop k) = withL n ((if done = false ∧ n ≤ gi l k then acc ++ [n] else acc) ++ (if gi l k ≠ n then [gi l k] else [])) (done || decide (n ≤ gi l k)) (l.drop (k + 1)) := by
  rw [drop_cons' hk, gi_get hk]
  conv => lhs; unfold withL
/-- The state of With's loop. -/
def WithRel (w : World) (l : List Int) (x : Int) (k : Nat) (v : Value) (b : Bool) (wr : World) : Prop := ∃ acc, OwnInts wr w.heap.size v acc ∧ Below w.heap.size w wr ∧ acc.length ≤ k + (if b then 1 else 0) ∧ withL x acc b (l.drop k) = withP l x
def IntsBack (w : World) (l : List Int) (e : Ending) (w' : World) : Prop := ∃ v, e = .returned v ∧ OwnInts w' w.heap.size v l ∧ Below w.heap.size w w'
set_option maxRecDepth 100000 in
set_option maxHeartbeats 4000000 in
theorem rwith_any (A : Option Addr) (n c : Nat) (l : List Int) (x : Int) (w : World) (h : Ints w w.heap.size A n l) (hn : n ≤ 1000000000) (hx : -9223372036854775808 ≤ x ∧ x ≤ 9223372036854775807) :
    Calls Tryz.prog 165 #[.slice A n c, .int .i64 x] w (IntsBack w (withP l x)) := by
  have H := Lib.hid h
  have HL := Lib.hid h.len
  clear h
  go_enter Tryz.func165, Tryz.ntmps165
  go_wp2
  go_loopw [5, 6, 7] (fun v0 d i wr => ∃ (k : Nat) (b : Bool) (v : Value), v = v0 ∧ k ≤ n ∧ i = .int .i64 (k : Int) ∧ d = .bool b ∧ Hid (WithRel w l x k v b wr)) (fun _ _ i _ => n - (intOf i).toNat)
  case atStart => exact ⟨0, false, _, rfl, Nat.zero_le _, rfl, rfl, [], OwnInts.nil_ _ _, Below.refl _ _, by simp, rfl⟩
  case round =>
    obtain ⟨k, b, v, rfl, hk, rfl, rfl, HR⟩ := hrel
    obtain ⟨acc, hown, hbel, hal, heq⟩ := HR.out
    have hal2 : acc.length ≤ k + 1 := by cases b <;> simp at hal <;> omega
    have hB : w.heap.size ≤ wr.heap.size := hbel.size
    have HOWN := Lib.hid hown
    have HBEL := Lib.hid hbel
    have HAL := Lib.hid (show acc.length < 1099511627776 by omega)
    have HLN := Lib.hid hal
    have HEQ := Lib.hid heq
    clear HR hown hbel hal heq
    by_cases hlt : k < n
    · have hk2 : (k : Int) < n := by omega
      have hkl : k < l.length := by rw [HL.out]; exact hlt
      have hst := withL_snoc (n := x) hkl acc b
      rw [HEQ.out] at hst
      have hbd := H.out.bounds k
      obtain ⟨ad, rfl, hbl, c0⟩ := (H.out.below HBEL.out).at_ hlt
      obtain ⟨y, hy⟩ : ∃ y, gi l k = y := ⟨_, rfl⟩
      rw [hy] at c0 hst hbd
      have HST := Lib.hid hst
      have HI := Lib.hid (show Ints w w.heap.size (some ad) n l from H.out)
      have HGY := Lib.hid hy
      have AL1 : Hid (∀ z : Int, (acc ++ [z]).length < 1099511627776) := fun z => by simp; omega
      clear hy hst
      cases b with
      | true =>
        rcases Int.lt_trichotomy x y with hxy | hxy | hxy
        · have g1 : x ≤ y := by omega
          have hne : (y != x) = true := by simp; omega
          go_wp2_with (first
              | (at_builtin; go_must (refine wpList_push HOWN.out hB hbd HAL.out rfl (.tmp 34) (.tmp 39) 26 1 rfl Tryz.underlying26 rfl (by first | rfl | simp) ?_); intro v1 w4 ho_v1 hg_v1 ha_v1; have HO_v1 := Lib.hid ho_v1; have HG_v1 := Lib.hid hg_v1; have hs_v1 : w.heap.size ≤ w4.heap.size := Nat.le_trans hB hg_v1.size; clear ho_v1 hg_v1 ha_v1))
          go_roundw
          case rel =>
            refine ⟨k + 1, true, _, rfl, by omega, by go_num, rfl, (acc ++ [y]), HO_v1.out, (HBEL.out.grown HG_v1.out hB fun g e => (HOWN.out.1.lt g e).1), ?_, ?_⟩
            · have := HLN.out
              simp at this ⊢; try omega
            · rw [HST.out]; simp [show y ≠ x by omega]
          case measure => simp [intOf] <;> omega
        · have hxy' : x ≤ y := by omega
          have hxy2 : y ≤ x := by omega
          clear hxy
          have g1 : x ≤ y := by omega
          have hne : (y != x) = false := by simp; omega
          go_wp2
          go_roundw
          case rel =>
            refine ⟨k + 1, true, _, rfl, by omega, by go_num, rfl, acc, HOWN.out, HBEL.out, ?_, ?_⟩
            · have := HLN.out
              simp at this ⊢; try omega
            · rw [HST.out]; simp [show y = x by omega]
          case measure => simp [intOf] <;> omega
        · have g1 : ¬ x ≤ y := by omega
          have hne : (y != x) = true := by simp; omega
          go_wp2_with (first
              | (at_builtin; go_must (refine wpList_push HOWN.out hB hbd HAL.out rfl (.tmp 34) (.tmp 39) 26 1 rfl Tryz.underlying26 rfl (by first | rfl | simp) ?_); intro v1 w4 ho_v1 hg_v1 ha_v1; have HO_v1 := Lib.hid ho_v1; have HG_v1 := Lib.hid hg_v1; have hs_v1 : w.heap.size ≤ w4.heap.size := Nat.le_trans hB hg_v1.size; clear ho_v1 hg_v1 ha_v1))
          go_roundw
          case rel =>
            refine ⟨k + 1, true, _, rfl, by omega, by go_num, rfl, (acc ++ [y]), HO_v1.out, (HBEL.out.grown HG_v1.out hB fun g e => (HOWN.out.1.lt g e).1), ?_, ?_⟩
            · have := HLN.out
              simp at this ⊢; try omega
            · rw [HST.out]; simp [show y ≠ x by omega]
          case measure => simp [intOf] <;> omega
      | false =>
        rcases Int.lt_trichotomy x y with hxy | hxy | hxy
        · have g1 : x ≤ y := by omega
          have hne : (y != x) = true := by simp; omega
          go_wp2_with (first
              | (at_builtin; (refine wpList_push HOWN.out hB hx HAL.out rfl (.tmp 24) (.tmp 26) 26 1 rfl Tryz.underlying26 rfl (by first | rfl | simp) ?_); intro v1 w4 ho_v1 hg_v1 ha_v1; have HO_v1 := Lib.hid ho_v1; have HG_v1 := Lib.hid hg_v1; have hs_v1 : w.heap.size ≤ w4.heap.size := Nat.le_trans hB hg_v1.size; clear ho_v1 hg_v1 ha_v1; have c1_v1 : w4.cell? (ad.add k) = some (.int .i64 y) := by obtain ⟨ad', e', _, hc⟩ := (HI.out.below (HBEL.out.grown HG_v1.out hB fun g e => (HOWN.out.1.lt g e).1)).at_ hlt; injection e' with e'; subst e'; rw [hc, HGY.out])
              | (at_builtin; (refine wpList_push HO_v1.out hs_v1 hbd (AL1.out x) rfl (.tmp 34) (.tmp 39) 26 1 rfl Tryz.underlying26 rfl (by first | rfl | simp) ?_); intro v2 w5 ho_v2 hg_v2 ha_v2; have HO_v2 := Lib.hid ho_v2; have HG_v2 := Lib.hid hg_v2; have hs_v2 : w.heap.size ≤ w5.heap.size := Nat.le_trans hs_v1 hg_v2.size; clear ho_v2 hg_v2 ha_v2))
          go_roundw
          case rel =>
            refine ⟨k + 1, true, _, rfl, by omega, by go_num, rfl, (acc ++ [x] ++ [y]), HO_v2.out, ((HBEL.out.grown HG_v1.out hB fun g e => (HOWN.out.1.lt g e).1).grown HG_v2.out hs_v1 fun g e => (HO_v1.out.1.lt g e).1), ?_, ?_⟩
            · have := HLN.out
              simp at this ⊢; try omega
            · rw [HST.out]; simp [g1, show y ≠ x by omega]
          case measure => simp [intOf] <;> omega
        · have hxy' : x ≤ y := by omega
          have hxy2 : y ≤ x := by omega
          clear hxy
          have g1 : x ≤ y := by omega
          have hne : (y != x) = false := by simp; omega
          go_wp2_with (first
              | (at_builtin; go_must (refine wpList_push HOWN.out hB hx HAL.out rfl (.tmp 24) (.tmp 26) 26 1 rfl Tryz.underlying26 rfl (by first | rfl | simp) ?_); intro v1 w4 ho_v1 hg_v1 ha_v1; have HO_v1 := Lib.hid ho_v1; have HG_v1 := Lib.hid hg_v1; have hs_v1 : w.heap.size ≤ w4.heap.size := Nat.le_trans hB hg_v1.size; clear ho_v1 hg_v1 ha_v1; have c1_v1 : w4.cell? (ad.add k) = some (.int .i64 y) := by obtain ⟨ad', e', _, hc⟩ := (HI.out.below (HBEL.out.grown HG_v1.out hB fun g e => (HOWN.out.1.lt g e).1)).at_ hlt; injection e' with e'; subst e'; rw [hc, HGY.out]))
          go_roundw
          case rel =>
            refine ⟨k + 1, true, _, rfl, by omega, by go_num, rfl, (acc ++ [x]), HO_v1.out, (HBEL.out.grown HG_v1.out hB fun g e => (HOWN.out.1.lt g e).1), ?_, ?_⟩
            · have := HLN.out
              simp at this ⊢; try omega
            · rw [HST.out]; simp [show y = x by omega]
          case measure => simp [intOf] <;> omega
        · have g1 : ¬ x ≤ y := by omega
          have hne : (y != x) = true := by simp; omega
          go_wp2_with (first
              | (at_builtin; go_must (refine wpList_push HOWN.out hB hbd HAL.out rfl (.tmp 34) (.tmp 39) 26 1 rfl Tryz.underlying26 rfl (by first | rfl | simp) ?_); intro v1 w4 ho_v1 hg_v1 ha_v1; have HO_v1 := Lib.hid ho_v1; have HG_v1 := Lib.hid hg_v1; have hs_v1 : w.heap.size ≤ w4.heap.size := Nat.le_trans hB hg_v1.size; clear ho_v1 hg_v1 ha_v1))
          go_roundw
          case rel =>
            refine ⟨k + 1, false, _, rfl, by omega, by go_num, rfl, (acc ++ [y]), HO_v1.out, (HBEL.out.grown HG_v1.out hB fun g e => (HOWN.out.1.lt g e).1), ?_, ?_⟩
            · have := HLN.out
              simp at this ⊢; try omega
            · rw [HST.out]; simp [g1, show y ≠ x by omega]
          case measure => simp [intOf] <;> omega
    · obtain rfl : k = n := by omega
      have hfin : withP l x = withL x acc b [] := by rw [← HEQ.out, List.drop_of_length_le (by rw [HL.out]; exact Nat.le_refl _)]
      have HF := Lib.hid hfin
      clear hfin
      cases b with
      | true =>
        go_wp2
        go_ret
        exact ⟨_, rfl, by rw [HF.out]; exact HOWN.out, HBEL.out⟩
      | false =>
        go_wp2_with (at_builtin; go_must (refine wpList_push HOWN.out hB hx HAL.out rfl (.tmp 43) (.tmp 45) 26 1 rfl Tryz.underlying26 rfl (by first | rfl | simp) ?_); intro v1 w4 ho_v1 hg_v1 ha_v1; have HO_v1 := Lib.hid ho_v1; have HG_v1 := Lib.hid hg_v1; have hs_v1 : w.heap.size ≤ w4.heap.size := Nat.le_trans hB hg_v1.size; clear ho_v1 hg_v1 ha_v1)
        go_ret
        exact ⟨_, rfl, by rw [HF.out]; exact HO_v1.out, HBEL.out.grown HG_v1.out hB fun g e => (HOWN.out.1.lt g e).1⟩
end Go.Proofs.YtfinpehbpcckaaaGreatDoor
end
section
namespace Go.Proofs.YtfinpehbpcckaaaGreatDoor
open Go.RowKit
set_option linter.unusedVariables false

theorem rUnion_snoc (a b : List Int) (n : Int) : rUnion a (b ++ [n]) = withP (rUnion a b) n := by unfold rUnion; rw [List.foldl_append]; rfl
set_option maxRecDepth 100000 in
set_option maxHeartbeats 2000000 in
theorem runion_any (A A2 : Option Addr) (n m c d : Nat) (a b : List Int) (w : World) (ha : Ints w w.heap.size A n a) (hb : Ints w w.heap.size A2 m b) (hl : n + m ≤ 1000000000) :
    Calls Tryz.prog 140 #[.slice A n c, .slice A2 m d] w (IntsBack w (rUnion a b)) := by
  have HA := Lib.hid ha
  have HB := Lib.hid hb
  have HLA := Lib.hid ha.len
  have HLB := Lib.hid hb.len
  have hown := OwnInts.made w w.heap.size (Nat.le_refl _)
  have HM := Lib.hid hown
  have HAA := Lib.hid (show Ints (w.alloc (.cells #[] 3)) w.heap.size A n a from ha.below ((Below.refl _ _).alloc (Nat.le_refl _) _))
  have hB0 : w.heap.size ≤ (w.alloc (.cells #[] 3)).heap.size := by simp
  have HN2 := Lib.hid (show (([] : List Int).length + n) * 8 ≤ 140737488355328 by simp; omega)
  clear ha hb hown
  go_enter Tryz.func140, Tryz.ntmps140
  go_wp2_with (at_builtin; go_must (refine wpList_join HM.out hB0 HAA.out HN2.out rfl (.tmp 7) (.tmp 8) 26 c rfl Tryz.underlying26 rfl rfl ?_); intro v1 w1 hown1 hg1 hat1; have H1 := Lib.hid hown1; have HB1 := Lib.hid (show Below w.heap.size w w1 from ((Below.refl _ _).alloc (Nat.le_refl _) _).grown hg1 hB0 (fun k hk => by have e : w.heap.size = k := (by simpa [Value.ownBlock] using hk); omega)); clear hown1 hg1 hat1)
  go_loopw [5, 6] (fun v0 i wr => ∃ (k : Nat) (v : Value), v = v0 ∧ k ≤ m ∧ i = .int .i64 (k : Int) ∧ Hid (OwnInts wr w.heap.size v (rUnion a (b.take k)) ∧ Below w.heap.size w wr)) (fun _ i _ => m - (intOf i).toNat)
  case atStart => exact ⟨0, _, rfl, Nat.zero_le _, rfl, by simpa [rUnion] using H1.out, HB1.out⟩
  case round =>
    obtain ⟨k, v, rfl, hk, rfl, HR⟩ := hrel
    have hsz := HR.out.2.size
    by_cases hlt : k < m
    · have hk2 : (k : Int) < m := by omega
      have hkl : k < b.length := by rw [HLB.out]; exact hlt
      have hst := rUnion_snoc a (b.take k) (gi b k)
      rw [gi_get hkl, ← List.take_succ_eq_append_getElem hkl, ← gi_get hkl] at hst
      have hlen := rUnion_len (b.take k) a
      rw [List.length_take, HLA.out] at hlen
      have hbd := HB.out.bounds k
      obtain ⟨ad, rfl, hbl, c0⟩ := (HB.out.below HR.out.2).at_ hlt
      obtain ⟨A3, c3, rfl, -, -, hI⟩ := HR.out.1.ints
      have HI := Lib.hid hI
      obtain ⟨q, hq⟩ : ∃ q, (rUnion a (b.take k)).length = q := ⟨_, rfl⟩
      rw [hq] at hlen HI ⊢
      have HST := Lib.hid hst
      clear hI hq hst
      go_wp2_with fail
      refine (rwith_any A3 q c3 (rUnion a (b.take k)) (gi b k) wr HI.out (by omega) hbd).mono ?_
      rintro e w5 ⟨v', rfl, hv', hb'⟩
      have HF := Lib.hid (show OwnInts w5 w.heap.size v' (rUnion a (b.take (k + 1))) ∧ Below w.heap.size w w5 from ⟨by rw [HST.out]; exact hv'.more hsz, HR.out.2.trans (hb'.mono hsz)⟩)
      clear hv' hb' c0
      go_wp2
      go_roundw
      case rel => exact ⟨k + 1, _, rfl, by omega, by go_num, HF.out⟩
      case measure => simp [intOf] <;> omega
    · obtain rfl : k = m := by omega
      have HF := Lib.hid (show OwnInts wr w.heap.size v (rUnion a b) from by
        have := HR.out.1
        rwa [List.take_of_length_le (by rw [HLB.out]; exact Nat.le_refl _)] at this)
      go_wp2
      go_ret
      exact ⟨_, rfl, HF.out, HR.out.2⟩

set_option maxRecDepth 100000 in
set_option maxHeartbeats 1000000 in
theorem rdocs_any (A : Option Addr) (n c : Nat) (l : List Post) (w : World) (h : Posts w w.heap.size A n l) (hn : n ≤ 1000000000) :
    Calls Tryz.prog 141 #[.slice A n c] w (DocsPost w l) := by
  have H := Lib.hid h
  have HL := Lib.hid h.len
  clear h
  go_enter Tryz.func141, Tryz.ntmps141
  go_wp2
  go_loopw [3, 4] (fun v0 i wr => ∃ (k : Nat) (v : Value), v = v0 ∧ k ≤ n ∧ i = .int .i64 (k : Int) ∧ Hid (OwnInts wr w.heap.size v ((l.take k).map (·.doc)) ∧ Below w.heap.size w wr)) (fun _ i _ => n - (intOf i).toNat)
  case atStart => exact ⟨0, _, rfl, Nat.zero_le _, rfl, OwnInts.nil_ _ _, Below.refl _ _⟩
  case round =>
    obtain ⟨k, v, rfl, hk, rfl, HR⟩ := hrel
    have hB := HR.out.2.size
    by_cases hlt : k < n
    · have hk2 : (k : Int) < n := by omega
      have hkl : k < l.length := by rw [HL.out]; exact hlt
      obtain ⟨ad, X, x, c2, rfl, hbl, c0, c1, hx1, hx2, hd, -⟩ := (H.out.below HR.out.2).2 k hkl
      obtain ⟨p, hp⟩ : ∃ p, l[k] = p := ⟨_, rfl⟩
      rw [hp] at c0 hd
      have HP := Lib.hid hp
      clear hp
      have HOWN := Lib.hid HR.out.1
      have HAL := Lib.hid (show ((l.take k).map (·.doc)).length < 1099511627776 by rw [List.length_map, List.length_take]; omega)
      go_wp2_with (at_builtin; go_must (refine wpList_push HOWN.out hB hd HAL.out rfl (.tmp 11) (.tmp 17) 26 1 rfl Tryz.underlying26 rfl rfl ?_); intro v' w4 hown1 hg1 hat1; have H1 := Lib.hid hown1; have H2 := Lib.hid hg1; clear hown1 hg1 hat1)
      go_roundw
      case rel =>
        refine ⟨k + 1, _, rfl, by omega, by go_num, ?_, HR.out.2.grown H2.out hB fun g e => (HOWN.out.1.lt g e).1⟩
        rw [List.take_succ_eq_append_getElem hkl, List.map_append, HP.out]
        exact H1.out
      case measure => simp [intOf] <;> omega
    · obtain rfl : k = n := by omega
      go_wp2
      go_ret
      refine ⟨_, rfl, ?_, HR.out.2⟩
      have := HR.out.1
      rw [List.take_of_length_le (by rw [HL.out]; exact Nat.le_refl _)] at this
      exact this

theorem rOf_drop {l : List Post} {k : Nat} (hk : k < l.length) (d : Int) : rOf (l.drop k) d = if l[k].doc = d then l[k].places else rOf (l.drop (k + 1)) d := by
  rw [drop_cons' hk]; rfl
/-- Positions handed back, in older memory. -/
def PlacesBack (w : World) (l : List Int) (e : Ending) (w' : World) : Prop := w' = w ∧ ∃ X x c, e = .returned (.slice X x c) ∧ x ≤ c ∧ c ≤ maxLen ∧ Ints w w.heap.size X x l
set_option maxRecDepth 100000 in
set_option maxHeartbeats 1000000 in
theorem rof_any (A : Option Addr) (n c : Nat) (l : List Post) (d : Int) (w : World) (h : Posts w w.heap.size A n l) (hn : n ≤ 1000000000) :
    Calls Tryz.prog 142 #[.slice A n c, .int .i64 d] w (PlacesBack w (rOf l d)) := by
  have H := Lib.hid h
  have HL := Lib.hid h.len
  clear h
  go_enter Tryz.func142, Tryz.ntmps142
  go_wp2
  go_loop [5] (fun i => ∃ (k : Nat), k ≤ n ∧ i = .int .i64 (k : Int) ∧ Hid (rOf l d = rOf (l.drop k) d)) (fun i => n - (intOf i).toNat)
  case atStart => exact ⟨0, Nat.zero_le _, rfl, rfl⟩
  case round =>
    obtain ⟨k, hk, rfl, HR⟩ := hrel
    by_cases hlt : k < n
    · have hk2 : (k : Int) < n := by omega
      have hkl : k < l.length := by rw [HL.out]; exact hlt
      obtain ⟨ad, X, x, c2, rfl, hbl, c0, c1, hx1, hx2, hd, hI⟩ := H.out.2 k hkl
      have hst := rOf_drop hkl d
      rw [← HR.out] at hst
      obtain ⟨p, hp⟩ : ∃ p, l[k] = p := ⟨_, rfl⟩
      rw [hp] at c0 hd hI hst
      have HST := Lib.hid hst
      have HI := Lib.hid (And.intro hx1 (And.intro hx2 hI))
      clear hp hst hx1 hx2 hI
      obtain ⟨z, hz⟩ : ∃ z, p.doc = z := ⟨_, rfl⟩
      rw [hz] at c0 hd HST
      clear hz
      by_cases he : z = d
      · have HF := Lib.hid (show rOf l d = p.places by rw [HST.out, if_pos he])
        have hne : (z == d) = true := by simpa using he
        clear he
        go_wp2
        go_ret
        exact ⟨rfl, X, x, c2, rfl, HI.out.1, HI.out.2.1, by rw [HF.out]; exact HI.out.2.2⟩
      · have HF := Lib.hid (show rOf l d = rOf (l.drop (k + 1)) d by rw [HST.out, if_neg he])
        have hne : (z == d) = false := by simpa using he
        clear he
        go_wp2
        go_round
        case rel => exact ⟨k + 1, by omega, by go_num, HF.out⟩
        case measure => simp [intOf] <;> omega
    · obtain rfl : k = n := by omega
      have HF := Lib.hid (show rOf l d = [] by rw [HR.out, List.drop_of_length_le (by rw [HL.out]; exact Nat.le_refl _)]; rfl)
      go_wp2
      go_ret
      exact ⟨rfl, none, 0, 0, rfl, Nat.le_refl _, by simp, by rw [HF.out]; exact Ints.nil_⟩

theorem held_b {w W W' : World} {B : Nat} {A0 : Addr} {v0 : Value} (h0 : A0.block < B) (c : W.cell? A0 = some v0 ∧ Hid (Below B w W)) (h : Below B W W') : W'.cell? A0 = some v0 ∧ Hid (Below B w W') := ⟨(h.cell h0).trans c.1, c.2.out.trans h⟩
theorem held_alloc {w W : World} {B : Nat} {A0 : Addr} {v0 : Value} (hB : B ≤ w.heap.size) (h0 : A0.block < B) (c : W.cell? A0 = some v0 ∧ Hid (Below B w W)) (o : Obj) : (W.alloc o).cell? A0 = some v0 ∧ Hid (Below B w (W.alloc o)) :=
  held_b h0 c ((Below.refl _ _).alloc (Nat.le_trans hB c.2.out.size) _)
theorem held_draw {w W : World} {B : Nat} {A0 : Addr} {v0 : Value} (c : W.cell? A0 = some v0 ∧ Hid (Below B w W)) : W.drew.cell? A0 = some v0 ∧ Hid (Below B w W.drew) := ⟨c.1, c.2.out.drew⟩
def rOrP (a b : List Post) (z : Int) : Post := ⟨z, rUnion (rOf a z) (rOf b z)⟩
theorem rOf_len : ∀ (l : List Post) (d : Int) (N : Nat), (∀ p, p ∈ l → p.places.length ≤ N) → (rOf l d).length ≤ N
  | [], d, N, h => by simp [rOf]
  | p :: r, d, N, h => by
    unfold rOf
    split
    · exact h p (by simp)
    · exact rOf_len r d N fun q hq => h q (by simp [hq])
/-- The state of the reference's Or. -/
def ROrRel (wD : World) (a b : List Post) (D : List Int) (k : Nat) (v : Value) (wr : World) : Prop := ∃ ps, OwnPosts wr wD.heap.size v ps ∧ ps.map (·.1) = (D.take k).map (rOrP a b) ∧ Below wD.heap.size wD wr
set_option maxRecDepth 100000 in
set_option maxHeartbeats 4000000 in
theorem ror_any (A A2 : Option Addr) (n m c d : Nat) (a b : List Post) (w : World) (ha : Posts w w.heap.size A n a) (hb : Posts w w.heap.size A2 m b) (hn : n + m ≤ 1000000000) (hla : ∀ p, p ∈ a → p.places.length ≤ 400000000) (hlb : ∀ p, p ∈ b → p.places.length ≤ 400000000) :
    Calls Tryz.prog 106 #[.slice A n c, .slice A2 m d] w (PostsBack w (rOr a b)) := by
  have HA := Lib.hid ha
  have HB := Lib.hid hb
  have HLA := Lib.hid ha.len
  have HLB := Lib.hid hb.len
  have HPA := Lib.hid hla
  have HPB := Lib.hid hlb
  clear ha hb hla hlb
  go_enter Tryz.func106, Tryz.ntmps106
  go_wp2_with fail
  refine (rdocs_any A n c a w HA.out (by omega)).mono ?_
  rintro e w1 ⟨v1, rfl, hv1, hb1⟩
  obtain ⟨A3, c3, rfl, -, -, -⟩ := hv1.ints
  have HV1 := Lib.hid hv1
  have HB1 := Lib.hid hb1
  have hs1 := hb1.size
  have HL3 := Lib.hid (show (a.map (·.doc)).length = n by rw [List.length_map, HLA.out])
  rw [HL3.out] at HV1 ⊢
  clear hv1 hb1
  go_wp2_with fail
  refine (rdocs_any A2 m d b w1 ((HB.out.below HB1.out).more hs1) (by omega)).mono ?_
  rintro e w2 ⟨v2, rfl, hv2, hb2⟩
  obtain ⟨A4, c4, rfl, -, -, h4⟩ := hv2.ints
  have HL4 := Lib.hid (show (b.map (·.doc)).length = m by rw [List.length_map, HLB.out])
  rw [HL4.out] at h4 ⊢
  have HV2 := Lib.hid h4
  have HV12 := Lib.hid (HV1.out.block (w' := w2) fun g hg => hb2.block g (HV1.out.1.lt g hg).2)
  have HB2 := Lib.hid (HB1.out.trans (hb2.mono hs1))
  have hs2 := hb2.size
  clear hv2 hb2 h4
  obtain ⟨A3', c3', e3, -, -, h3⟩ := HV12.out.ints
  rw [HL3.out] at e3 h3
  injection e3 with e3 e4 e5
  subst e3
  subst e5
  have H3 := Lib.hid h3
  clear h3 e4
  go_wp2_with fail
  refine (runion_any A3 A4 n m c3 c4 (a.map (·.doc)) (b.map (·.doc)) w2 H3.out HV2.out hn).mono ?_
  rintro e wD ⟨v5, rfl, hv5, hb5⟩
  obtain ⟨D, hD⟩ : ∃ D, rUnion (a.map (·.doc)) (b.map (·.doc)) = D := ⟨_, rfl⟩
  rw [hD] at hv5
  have HDD := Lib.hid (show rOr a b = D.map (rOrP a b) by unfold rOr; rw [hD]; rfl)
  have hdl : D.length ≤ 1000000000 := by
    have := rUnion_len (b.map (·.doc)) (a.map (·.doc))
    rw [hD, HL3.out, HL4.out] at this
    omega
  obtain ⟨A5, c5, rfl, -, -, h5⟩ := hv5.ints
  obtain ⟨N, hN⟩ : ∃ N, D.length = N := ⟨_, rfl⟩
  rw [hN] at h5 hdl ⊢
  have HN := Lib.hid hN
  have H5 := Lib.hid h5
  have HBD := Lib.hid (HB2.out.trans (hb5.mono (by omega)))
  have hsD : w.heap.size ≤ wD.heap.size := by have := hb5.size; omega
  clear hv5 hb5 hD hN h5
  go_wp2
  go_loopw [6, 7] (fun v0 i wr => ∃ (k : Nat) (v : Value), v = v0 ∧ k ≤ N ∧ i = .int .i64 (k : Int) ∧ Hid (ROrRel wD a b D k v wr)) (fun _ i _ => N - (intOf i).toNat)
  case atStart => exact ⟨0, _, rfl, Nat.zero_le _, rfl, [], OwnPosts.nil_ _ _, rfl, Below.refl _ _⟩
  case round =>
    obtain ⟨k, v, rfl, hk, rfl, HR⟩ := hrel
    obtain ⟨ps, hown, hps, hbel⟩ := HR.out
    have hsr := hbel.size
    have HOWN := Lib.hid hown
    have HPS := Lib.hid hps
    have HBEL := Lib.hid hbel
    clear HR hown hps hbel
    by_cases hlt : k < N
    · have hk2 : (k : Int) < N := by omega
      have hkl : k < D.length := by rw [HN.out]; exact hlt
      obtain ⟨dd, rfl, hdb, c0⟩ := (H5.out.below HBEL.out).at_ hlt
      have hdb' : (dd.add k).block < wD.heap.size := by rw [add_block]; exact hdb
      have hzb := H5.out.bounds k
      obtain ⟨z, hz⟩ : ∃ z, gi D k = z := ⟨_, rfl⟩
      rw [hz] at c0 hzb
      have HSN := Lib.hid (show (D.take (k + 1)).map (rOrP a b) = (D.take k).map (rOrP a b) ++ [rOrP a b z] by
        rw [List.take_succ_eq_append_getElem hkl, List.map_append, ← gi_get hkl, hz]; rfl)
      obtain ⟨AV, cv, rfl, -, -, -⟩ := HOWN.out.posts
      have HLEN := Lib.hid (show ps.length ≤ 1000000000 by
        have := congrArg List.length HPS.out
        simp at this; omega)
      have HBW := Lib.hid (HBD.out.trans (HBEL.out.mono hsD))
      have HSD : Hid (Below wD.heap.size wr wr.drew) := (Below.refl _ _).drew
      have HSW := Lib.hid (show Below wr.heap.size wr wr.drew from (Below.refl _ _).drew)
      have HO1 := Lib.hid (rof_any A n c a z wr.drew (show Posts wr.drew wr.drew.heap.size A n a from (HA.out.below HBW.out).more (Nat.le_trans hsD hsr)) (by omega))
      have HO2 := Lib.hid (rof_any A2 m d b z wr.drew (show Posts wr.drew wr.drew.heap.size A2 m b from (HB.out.below HBW.out).more (Nat.le_trans hsD hsr)) (by omega))
      clear hz
      go_wp2
      go_region_held3 (fun w' => w'.cell? (dd.add k) = some (.int .i64 z) ∧ Hid (Below wD.heap.size wr w')) ((first | exact ⟨c0, HSD⟩ | exact held_b (W := wr.drew) hdb' ⟨c0, HSD⟩ (hbel.mono hsr) | exact held_b (W := w1) hdb' (held_b (W := wr.drew) hdb' ⟨c0, HSD⟩ (hbel.mono hsr)) hbel8 | (refine held_alloc hsr hdb' ?_ _; exact held_b (W := wr.drew) hdb' ⟨c0, HSD⟩ (hbel.mono hsr))))
        (first
          | (go_at_call_of 142 (Value.slice A n c); refine HO1.out.mono ?_; rintro e w' ⟨rfl, X1, x1, y1, rfl, hh1⟩; (have HH1 := Lib.hid hh1; clear hh1))
          | (go_at_call_of 142 (Value.slice A2 m d); refine HO2.out.mono ?_; rintro e w' ⟨rfl, X2, x2, y2, rfl, hh2⟩; (have HH2 := Lib.hid hh2; clear hh2))
          | (go_at_call 140; refine (runion_any X1 X2 x1 x2 y1 y2 (rOf a z) (rOf b z) wr.drew HH1.out.2.2 HH2.out.2.2 (by rw [← HH1.out.2.2.len, ← HH2.out.2.2.len]; have := rOf_len a z _ HPA.out; have := rOf_len b z _ HPB.out; omega)).mono ?_; rintro e w1 ⟨u, rfl, hu, hbel⟩; (
            obtain ⟨X, cx, rfl, hpl⟩ := back_places (p := rOrP a b z) HOWN.out hzb hu (HSW.out.trans hbel)
            have HPL := Lib.hid hpl
            have HOW1 := Lib.hid (HOWN.out.below (w' := w1) (HSW.out.trans hbel))
            have HB1' := Lib.hid (HSW.out.trans hbel)
            have hs1' : wD.heap.size ≤ w1.heap.size := Nat.le_trans hsr hbel.size
            clear hu hpl))
          | (refine step_pushPost (p := rOrP a b z) HOW1.out hs1' HPL.out HLEN.out rfl (.tmp 19) (.tmp 38) 1 rfl rfl rfl ?_; intro v' w8 hown8 hg8; (
            have HF := Lib.hid (And.intro hown8 (HB1'.out.mono hsr |>.grown hg8 hs1' fun g e => (HOWN.out.row.lt g e).1))
            have hbel8 : Below wD.heap.size w1 w8 := (Below.refl _ _).grown hg8 hs1' fun g e => (HOWN.out.row.lt g e).1
            clear hown8 hg8))
          | fail)
      all_goals
        go_wp2
        go_roundw
        case rel =>
          refine ⟨k + 1, _, rfl, by omega, by go_num, _, HF.out.1, ?_, HBEL.out.trans HF.out.2⟩
          rw [HSN.out, List.map_append, HPS.out]; rfl
        case measure => simp [intOf] <;> omega
    · obtain rfl : k = N := by omega
      have HF := Lib.hid (show ps.map (·.1) = rOr a b by
        rw [HPS.out, HDD.out, List.take_of_length_le (by rw [HN.out]; exact Nat.le_refl _)])
      go_wp2
      go_ret
      exact ⟨_, ps, rfl, HOWN.out.more hsD, HF.out, HBD.out.trans (HBEL.out.mono hsD)⟩
end Go.Proofs.YtfinpehbpcckaaaGreatDoor
end
