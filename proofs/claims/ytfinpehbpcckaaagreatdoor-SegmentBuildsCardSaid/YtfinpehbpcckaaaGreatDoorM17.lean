/- Layers 5 and 32, plain: a word of a text, taken as a text, is its own one word. Layer 34, plain: the order of terms. Layer 34, plain: what Build makes, told by its properties; there is one such segment, and it is valid. Layer 34: words for the first loop of Build. DERIVED: THE SHELF's CONTRACTS AT THIS DUMP, IN PLAIN WORDS (tools/lay-plain.mjs out of 'TryzShelfB.lean', which tools/lay-shelf.mjs wrote): THE SAME DECLARATIONS UNDER THE SAME NAMES: 'import', 'namespace', 'open', 'def', 'theorem' AND NOTHING ELSE: no command of the shelf's: FOR A HAND-IN. Each laying: the table of numbers ('.._ren') and one theorem, a field a fact of the dump's own or the kernel's comparison; each contract: ONE APPLICATION. -/
import Derived.Carry
import Derived.Shelf.SlGeneric
import Derived.Shelf.SlIterI.Nil
import Derived.Shelf.SlIterI.Sorted
import Derived.Shelf.SlSortCmp.WholeK
import Derived.Ground.GgzProg
import Derived.Ground.SlsfProg
import Derived.Test.YtfinpehbpcckaaaGreatDoorProg
import Derived.Test.YtfinpehbpcckaaaGreatDoorM08
import Derived.Test.YtfinpehbpcckaaaGreatDoorM16
section
namespace Go.Proofs.YtfinpehbpcckaaaGreatDoor
set_option linter.unusedVariables false

theorem bt_app {x t : List UInt8} {i : Nat} (h : i < x.length) : bt (x ++ t) i = bt x i := by
  unfold bt
  rw [List.getD_eq_getElem?_getD, List.getD_eq_getElem?_getD, List.getElem?_append_left h]
theorem bt_tk {m : List UInt8} {n k : Nat} (h : k < n) : bt (m.take n) k = bt m k := by
  unfold bt
  rw [List.getD_eq_getElem?_getD, List.getD_eq_getElem?_getD, List.getElem?_take_of_lt h]
theorem uN_one {l : List UInt8} (h1 : bt l 0 < 128) : uN l = (bt l 0, 1) := by
  unfold uN Lib.decodeN
  rw [if_pos h1]
theorem uN_two {l : List UInt8} (h0 : 2 ≤ l.length) (h1 : bt l 0 / 32 = 6) (h2 : bt l 1 / 64 = 2) (h3 : 128 ≤ bt l 0 % 32 * 64 + bt l 1 % 64) : uN l = (bt l 0 % 32 * 64 + bt l 1 % 64, 2) := by
  unfold uN Lib.decodeN
  rw [if_neg (by omega), if_pos ⟨h1, by omega, h2⟩, if_pos h3]
theorem uN_three {l : List UInt8} (h0 : 3 ≤ l.length) (h1 : bt l 0 / 16 = 14) (h2 : bt l 1 / 64 = 2) (h3 : bt l 2 / 64 = 2) (h4 : 2048 ≤ bt l 0 % 16 * 4096 + bt l 1 % 64 * 64 + bt l 2 % 64)
    (h5 : bt l 0 % 16 * 4096 + bt l 1 % 64 * 64 + bt l 2 % 64 < 55296 ∨ 57344 ≤ bt l 0 % 16 * 4096 + bt l 1 % 64 * 64 + bt l 2 % 64) : uN l = (bt l 0 % 16 * 4096 + bt l 1 % 64 * 64 + bt l 2 % 64, 3) := by
  unfold uN Lib.decodeN
  rw [if_neg (by omega), if_neg (by omega), if_pos ⟨h1, ⟨by omega, h2⟩, by omega, h3⟩, if_pos]
  refine ⟨h4, ?_⟩
  rcases h5 with h5 | h5
  · exact .inl h5
  · exact .inr ⟨h5, by omega⟩
theorem uN_four {l : List UInt8} (h0 : 4 ≤ l.length) (h1 : bt l 0 / 8 = 30) (h2 : bt l 1 / 64 = 2) (h3 : bt l 2 / 64 = 2) (h4 : bt l 3 / 64 = 2) (h5 : 65536 ≤ bt l 0 % 8 * 262144 + bt l 1 % 64 * 4096 + bt l 2 % 64 * 64 + bt l 3 % 64)
    (h6 : bt l 0 % 8 * 262144 + bt l 1 % 64 * 4096 + bt l 2 % 64 * 64 + bt l 3 % 64 ≤ 1114111) : uN l = (bt l 0 % 8 * 262144 + bt l 1 % 64 * 4096 + bt l 2 % 64 * 64 + bt l 3 % 64, 4) := by
  unfold uN Lib.decodeN
  rw [if_neg (by omega), if_neg (by omega), if_neg (by omega), if_pos ⟨h1, ⟨by omega, h2⟩, ⟨by omega, h3⟩, by omega, h4⟩, if_pos]
  exact ⟨h5, .inr ⟨by omega, h6⟩⟩
/-- What a rune is hangs on its own bytes alone. -/
theorem uN_local {l m : List UInt8} (hl : l ≠ []) (hv : (uN l).1 ≠ 65533) (hm : l.take (uN l).2 <+: m) : uN m = uN l := by
  obtain ⟨t, rfl⟩ := hm
  have hp := uN_pos l hl
  have hlen : (l.take (uN l).2).length = (uN l).2 := by rw [List.length_take]; omega
  have hb : ∀ i, i < (uN l).2 → bt (l.take (uN l).2 ++ t) i = bt l i := fun i hi => by rw [bt_app (by rw [hlen]; exact hi), bt_tk hi]
  have hge : (uN l).2 ≤ (l.take (uN l).2 ++ t).length := by rw [List.length_append, hlen]; omega
  rcases uN_cases l hl with ⟨hn, hr⟩ | ⟨hn, h1, h2, h3, hr, h4⟩ | ⟨hn, h1, h2, h3, h4, hr, h5, h6⟩ | ⟨hn, h1, h2, h3, h4, h5, hr, h6, h7⟩
  · rcases hr with ⟨h1, h2⟩ | ⟨_, h2⟩
    · have e0 := hb 0 (by omega)
      rw [uN_one (by rw [e0]; exact h1), e0]
      exact Prod.ext h2.symm hn.symm
    · exact absurd h2 hv
  · have e0 := hb 0 (by omega)
    have e1 := hb 1 (by omega)
    rw [uN_two (by omega) (by rw [e0]; exact h2) (by rw [e1]; exact h3) (by rw [e0, e1]; omega), e0, e1]
    exact Prod.ext hr.symm hn.symm
  · have e0 := hb 0 (by omega)
    have e1 := hb 1 (by omega)
    have e2 := hb 2 (by omega)
    rw [uN_three (by omega) (by rw [e0]; exact h2) (by rw [e1]; exact h3) (by rw [e2]; exact h4) (by rw [e0, e1, e2]; omega) (by rw [e0, e1, e2]; omega), e0, e1, e2]
    exact Prod.ext hr.symm hn.symm
  · have e0 := hb 0 (by omega)
    have e1 := hb 1 (by omega)
    have e2 := hb 2 (by omega)
    have e3 := hb 3 (by omega)
    rw [uN_four (by omega) (by rw [e0]; exact h2) (by rw [e1]; exact h3) (by rw [e2]; exact h4) (by rw [e3]; exact h5) (by rw [e0, e1, e2, e3]; omega) (by rw [e0, e1, e2, e3]; omega), e0, e1, e2, e3]
    exact Prod.ext hr.symm hn.symm
theorem wKind_ne {l : List UInt8} (h : wKind l ≠ 0) : (uN l).1 ≠ 65533 := fun e => h (by unfold wKind; rw [if_pos e])
/-- One unit of class k, and nothing else. -/
def Un (k : Int) (x : List UInt8) : Prop := x ≠ [] ∧ (uN x).2 = x.length ∧ wKind x = k
theorem Un.app {k : Int} {x : List UInt8} (h : Un k x) (hk : k ≠ 0) (t : List UInt8) : uN (x ++ t) = uN x ∧ wKind (x ++ t) = k := by
  have h1 : uN (x ++ t) = uN x := uN_local h.1 (wKind_ne (by rw [h.2.2]; exact hk)) (by rw [h.2.1, List.take_length]; exact List.prefix_append _ _)
  refine ⟨h1, ?_⟩
  have h2 := h.2.2
  unfold wKind at h2 ⊢
  rw [h1]; exact h2
theorem Un.of {l : List UInt8} (hl : l ≠ []) (hk : wKind l ≠ 0) : Un (wKind l) (l.take (uN l).2) := by
  have hp := uN_pos l hl
  have h1 : uN (l.take (uN l).2) = uN l := uN_local hl (wKind_ne hk) (List.prefix_refl _)
  refine ⟨?_, ?_, ?_⟩
  · intro e
    have h2 : (l.take (uN l).2).length = 0 := by rw [e]; rfl
    rw [List.length_take] at h2
    omega
  · rw [h1, List.length_take]; omega
  · unfold wKind; rw [h1]
/-- Below 2048 the class is plain. -/
theorem kind_lowP {r : Int} (h0 : 0 ≤ r) (h1 : r < 2048) : kindP r = if kWord r = true then 1 else if r < 192 ∨ r = 215 ∨ r = 247 then 0 else 1 := by
  unfold kindP
  have hk : ¬ kOwn r = true := by unfold kOwn; rw [decide_eq_true_eq]; omega
  rw [if_neg hk]
  by_cases hw : kWord r = true
  · rw [if_pos hw, if_pos hw]
  · rw [if_neg hw, if_neg hw]
    by_cases h : r < 192 ∨ r = 215 ∨ r = 247
    · rw [if_pos h, if_pos]
      unfold kNone; rw [decide_eq_true_eq]; omega
    · rw [if_neg h, if_neg]
      unfold kNone; rw [decide_eq_true_eq]; omega
theorem rlower_twice {r : Int} (h0 : 0 ≤ r) : rlower (rlower r) = rlower r := by
  by_cases h : 1072 ≤ r
  · rw [rlower_high h, rlower_high h]
  · by_cases h2 : 1072 ≤ rlower r
    · exact rlower_high h2
    · have key : ∀ q, rlower r = q → q < 1072 → rlower q = q := by
        intro q hq hq2
        unfold rlower at hq
        repeat' split at hq
        all_goals
          unfold rlower
          rw [if_neg (by omega), if_neg (by omega), if_neg (by omega), if_neg (by omega), if_neg (by omega), if_neg (by omega), if_neg (by omega), if_neg (by omega)]
      exact key _ rfl (by omega)
theorem rlower_cap {r : Int} (h0 : 0 ≤ r) (h : r < 1072) : 0 ≤ rlower r ∧ rlower r < 2048 := by
  have := rlower_low h0
  omega
theorem kind_rlower {r : Int} (h0 : 0 ≤ r) : kindP (rlower r) = kindP r := by
  by_cases h : 1072 ≤ r
  · rw [rlower_high h]
  · have hc := rlower_cap h0 (by omega)
    rw [kind_lowP hc.1 hc.2, kind_lowP h0 (by omega)]
    unfold kWord
    simp only [decide_eq_true_eq]
    have key : ∀ q, rlower r = q → (if (48 ≤ q ∧ q ≤ 57) ∨ (65 ≤ q ∧ q ≤ 90) ∨ (97 ≤ q ∧ q ≤ 122) then (1 : Int) else if q < 192 ∨ q = 215 ∨ q = 247 then 0 else 1) = if (48 ≤ r ∧ r ≤ 57) ∨ (65 ≤ r ∧ r ≤ 90) ∨ (97 ≤ r ∧ r ≤ 122) then 1 else if r < 192 ∨ r = 215 ∨ r = 247 then 0 else 1 := by
      intro q hq
      unfold rlower at hq
      repeat' split at hq
      all_goals
        subst hq
        repeat' split
        all_goals first | rfl | (exfalso; omega)
    exact key _ rfl
theorem toNat_of {n : Nat} (h : n < 256) : (UInt8.ofNat n).toNat = n := by rw [UInt8.toNat_ofNat']; omega
theorem foldU_one {y : List UInt8} (h : (uN y).2 = 1) (h1 : bt y 0 < 128) : foldU y = [UInt8.ofNat (rlower (bt y 0)).toNat] := by unfold foldU; rw [if_pos h, if_pos h1]
theorem foldU_two {y : List UInt8} (h : (uN y).2 = 2) : foldU y = [UInt8.ofNat (192 + (rlower (uN y).1).toNat / 64), UInt8.ofNat (128 + (rlower (uN y).1).toNat % 64)] := by unfold foldU; rw [if_neg (by omega), if_pos h]
/-- A unit, folded: its rune, its length, its class. -/
theorem Un.fold {k : Int} {x : List UInt8} (h : Un k x) (hk : k ≠ 0) : uN (foldU x) = ((rlower (uN x).1).toNat, (uN x).2) ∧ Un k (foldU x) ∧ (foldU x).length = x.length ∧ foldU (foldU x) = foldU x := by
  have hv := wKind_ne (l := x) (by rw [h.2.2]; exact hk)
  have hlen := foldU_len x h.1
  have hu : uN (foldU x) = ((rlower (uN x).1).toNat, (uN x).2) ∧ foldU (foldU x) = foldU x := by
    rcases uN_cases x h.1 with ⟨hn, hr⟩ | ⟨hn, h1, h2, h3, hr, h4⟩ | ⟨hn, h1, h2, h3, h4, hr, h5, h6⟩ | ⟨hn, h1, h2, h3, h4, h5, hr, h6, h7⟩
    · rcases hr with ⟨h1, h2⟩ | ⟨_, h2⟩
      · have hl := rlower_128 (r := (bt x 0 : Int)) (by omega) (by omega)
        have hf : foldU x = [UInt8.ofNat (rlower (bt x 0)).toNat] := by unfold foldU; rw [if_pos hn, if_pos h1]
        have hb : bt (foldU x) 0 = (rlower (bt x 0)).toNat := by rw [hf]; exact toNat_of (by omega)
        have hu := uN_one (l := foldU x) (by rw [hb]; omega)
        rw [hb] at hu
        refine ⟨by rw [hu, h2, hn], ?_⟩
        rw [foldU_one (y := foldU x) (by rw [hu]) (by rw [hb]; omega), hb, hf, Int.toNat_of_nonneg hl.1, rlower_twice (by omega)]
      · exact absurd h2 hv
    · have hl := rlower_two (r := ((uN x).1 : Int)) (by omega) (by omega)
      have hf : foldU x = [UInt8.ofNat (192 + (rlower (uN x).1).toNat / 64), UInt8.ofNat (128 + (rlower (uN x).1).toNat % 64)] := by unfold foldU; rw [if_neg (by omega), if_pos hn]
      obtain ⟨q, hq⟩ : ∃ q, (rlower (uN x).1).toNat = q := ⟨_, rfl⟩
      have hq1 : 128 ≤ q ∧ q ≤ 2047 := by omega
      have hqr : rlower (q : Int) = q := by rw [← hq, Int.toNat_of_nonneg (by omega), rlower_twice (by omega)]
      rw [hq] at hf
      have hb : bt (foldU x) 0 = 192 + q / 64 := by rw [hf]; exact toNat_of (by omega)
      have hb1 : bt (foldU x) 1 = 128 + q % 64 := by rw [hf]; exact toNat_of (by omega)
      have hu := uN_two (l := foldU x) (by rw [hlen]; omega) (by rw [hb]; omega) (by rw [hb1]; omega) (by rw [hb, hb1]; omega)
      have he : bt (foldU x) 0 % 32 * 64 + bt (foldU x) 1 % 64 = q := by rw [hb, hb1]; omega
      rw [he] at hu
      refine ⟨by rw [hu, hq, hn], ?_⟩
      rw [foldU_two (y := foldU x) (by rw [hu]), hu, hf]
      show [UInt8.ofNat (192 + (rlower (q : Int)).toNat / 64), UInt8.ofNat (128 + (rlower (q : Int)).toNat % 64)] = _
      rw [hqr]; rfl
    · have hf : foldU x = x := by unfold foldU; rw [if_neg (by omega), if_neg (by omega), h.2.1, List.take_length]
      rw [hf]
      refine ⟨Prod.ext ?_ rfl, hf⟩
      show (uN x).1 = _
      rw [rlower_high (by omega)]; rfl
    · have hf : foldU x = x := by unfold foldU; rw [if_neg (by omega), if_neg (by omega), h.2.1, List.take_length]
      rw [hf]
      refine ⟨Prod.ext ?_ rfl, hf⟩
      show (uN x).1 = _
      rw [rlower_high (by omega)]; rfl
  have hll : (foldU x).length = x.length := by rw [hlen, h.2.1]
  refine ⟨hu.1, ⟨?_, ?_, ?_⟩, hll, hu.2⟩
  · intro e
    rw [e] at hll
    exact h.1 (List.eq_nil_of_length_eq_zero hll.symm)
  · rw [hu.1, hll]; exact h.2.1
  · have h2 := h.2.2
    unfold wKind at h2 ⊢
    rw [if_neg hv] at h2
    rw [hu.1]
    have hr := rlower_low (r := ((uN x).1 : Int)) (by omega)
    have hne : kindP 65533 = 0 := by decide +kernel
    show (if (rlower (uN x).1).toNat = 65533 then (0 : Int) else kindP ((rlower (uN x).1).toNat : Nat)) = k
    rw [Int.toNat_of_nonneg hr.1, kind_rlower (by omega), h2]
    rw [if_neg]
    intro e
    have e2 : rlower (uN x).1 = 65533 := by omega
    have e3 := kind_rlower (r := ((uN x).1 : Int)) (by omega)
    rw [e2, hne, h2] at e3
    exact hk e3.symm
theorem foldP_un {k : Int} {x : List UInt8} (h : Un k x) (hk : k ≠ 0) (t : List UInt8) : foldP (x ++ t) = foldU x ++ foldP t := by
  have ha := h.app hk t
  have hne : x ++ t ≠ [] := by simp [h.1]
  rw [foldP_cons hne, ha.1, h.2.1, List.drop_left]
  congr 1
  have hl := h.2.1
  unfold foldU
  rw [ha.1, bt_app (List.length_pos_iff.2 h.1), h.2.1, List.take_left, List.take_length]
  have h1 : (x ++ t).take 1 = x.take 1 := by
    cases x with
    | nil => exact absurd rfl h.1
    | cons a r => simp
  rw [h1]
theorem foldP_flat {k : Int} (hk : k ≠ 0) : ∀ us : List (List UInt8), (∀ x, x ∈ us → Un k x) → foldP us.flatten = (us.map foldU).flatten
  | [], _ => by simp [foldP_nil]
  | x :: r, h => by
    rw [List.flatten_cons, foldP_un (h x (by simp)) hk, foldP_flat hk r fun y hy => h y (by simp [hy])]
    simp
/-- The bytes of a word: one unit that is a word by itself, or some that make one, forty bytes at most. -/
def Wordy (u : List UInt8) : Prop := ∃ us : List (List UInt8), us ≠ [] ∧ u = us.flatten ∧ ((∃ x, us = [x] ∧ Un 2 x) ∨ ((∀ x, x ∈ us → Un 1 x) ∧ u.length ≤ 40))
def Opn (u : List UInt8) : Prop := ∃ us : List (List UInt8), us ≠ [] ∧ u = us.flatten ∧ (∀ x, x ∈ us → Un 1 x) ∧ u.length ≤ 40
theorem Opn.wordy {u : List UInt8} (h : Opn u) : Wordy u := by
  obtain ⟨us, h0, h1, h2, h3⟩ := h
  exact ⟨us, h0, h1, .inr ⟨h2, h3⟩⟩
def WOk (s : List UInt8) (r : Nat × Nat) : Prop := r.1 ≤ r.2 ∧ r.2 ≤ s.length ∧ Wordy ((s.take r.2).drop r.1)
theorem wEnd_ok {s : List UInt8} {f : Int} {a : Nat} {ws : List (Nat × Nat)} (hw : ∀ r, r ∈ ws → WOk s r) (ha : a ≤ s.length) (hf : 0 ≤ f → f.toNat ≤ a ∧ Opn ((s.take a).drop f.toNat)) : ∀ r, r ∈ wEnd f a ws → WOk s r := by
  intro r hr
  unfold wEnd at hr
  split at hr
  · rename_i h0
    rcases List.mem_append.1 hr with hr | hr
    · exact hw r hr
    · rw [List.mem_singleton] at hr
      subst hr
      exact ⟨(hf h0).1, ha, (hf h0).2.wordy⟩
  · exact hw r hr
theorem take_more {s : List UInt8} {a n : Nat} : s.take (a + n) = s.take a ++ (s.drop a).take n := List.take_add
theorem cut_more {s : List UInt8} {a n f : Nat} (hf : f ≤ a) (ha : a ≤ s.length) : (s.take (a + n)).drop f = (s.take a).drop f ++ (s.drop a).take n := by
  rw [take_more, List.drop_append_of_le_length (by rw [List.length_take]; omega)]
theorem cut_new {s : List UInt8} {a n : Nat} (ha : a ≤ s.length) : (s.take (a + n)).drop a = (s.drop a).take n := by
  rw [cut_more (Nat.le_refl _) ha]
  rw [List.drop_eq_nil_of_le (by rw [List.length_take]; omega)]; rfl
theorem wRun_ok (s : List UInt8) : ∀ (k a : Nat) (f : Int) (ws : List (Nat × Nat)), a ≤ s.length → (∀ r, r ∈ ws → WOk s r) → (0 ≤ f → f.toNat ≤ a ∧ Opn ((s.take a).drop f.toNat)) → ∀ r, r ∈ wRun k (s.drop a) a f ws → WOk s r
  | 0, a, f, ws, ha, hw, hf => fun r hr => wEnd_ok hw ha hf r hr
  | k + 1, a, f, ws, ha, hw, hf => by
    intro r hr
    unfold wRun at hr
    by_cases hl : s.drop a = []
    · rw [if_pos hl] at hr
      exact wEnd_ok hw ha hf r hr
    · rw [if_neg hl] at hr
      have hp := uN_pos _ hl
      rw [List.length_drop] at hp
      rw [List.drop_drop] at hr
      obtain ⟨n, hn⟩ : ∃ n, (uN (s.drop a)).2 = n := ⟨_, rfl⟩
      have hend := wEnd_ok hw ha hf
      have hopn : wKind (s.drop a) = 1 → Opn ((s.take (a + n)).drop a) := fun h1 => by
        have hu := Un.of hl (by rw [h1]; decide)
        rw [h1, hn] at hu
        rw [cut_new ha]
        refine ⟨[(s.drop a).take n], by simp, by simp, fun x hx => ?_, ?_⟩
        · rw [List.mem_singleton] at hx; subst hx; exact hu
        · rw [List.length_take]; omega
      have hst : (∀ r, r ∈ (wStep (s.drop a) a f ws).2 → WOk s r) ∧ (0 ≤ (wStep (s.drop a) a f ws).1 → (wStep (s.drop a) a f ws).1.toNat ≤ a + n ∧ Opn ((s.take (a + n)).drop (wStep (s.drop a) a f ws).1.toNat)) := by
        unfold wStep
        rw [hn]
        rcases wKind_cases (s.drop a) with h1 | h1 | h1
        · rw [if_pos h1]
          exact ⟨hend, fun h => absurd (show (0 : Int) ≤ -1 from h) (by decide)⟩
        · rw [if_neg (by rw [h1]; decide), if_neg (by rw [h1]; decide)]
          by_cases h2 : 0 ≤ f ∧ 40 < (a : Int) + n - f
          · rw [if_pos h2]
            exact ⟨hend, fun _ => ⟨by show (a : Int).toNat ≤ _; omega, by show Opn ((s.take (a + n)).drop (a : Int).toNat); exact hopn h1⟩⟩
          · rw [if_neg h2]
            by_cases h3 : f < 0
            · rw [if_pos h3]
              exact ⟨hw, fun _ => ⟨by show (a : Int).toNat ≤ _; omega, by show Opn ((s.take (a + n)).drop (a : Int).toNat); exact hopn h1⟩⟩
            · rw [if_neg h3]
              refine ⟨hw, fun _ => ?_⟩
              obtain ⟨hfa, us, hu0, hu1, hu2, hu3⟩ := hf (by omega)
              have hu := Un.of hl (by rw [h1]; decide)
              rw [h1, hn] at hu
              refine ⟨by show f.toNat ≤ _; omega, us ++ [(s.drop a).take n], by simp, ?_, fun x hx => ?_, ?_⟩
              · show (s.take (a + n)).drop f.toNat = _
                rw [cut_more hfa ha, hu1]; simp
              · rcases List.mem_append.1 hx with hx | hx
                · exact hu2 x hx
                · rw [List.mem_singleton] at hx; subst hx; exact hu
              · show ((s.take (a + n)).drop f.toNat).length ≤ 40
                rw [List.length_drop, List.length_take]; omega
        · rw [if_neg (by rw [h1]; decide), if_pos h1]
          refine ⟨fun r hr => ?_, fun h => absurd (show (0 : Int) ≤ -1 from h) (by decide)⟩
          rcases List.mem_append.1 hr with hr | hr
          · exact hend r hr
          · rw [List.mem_singleton] at hr
            subst hr
            refine ⟨by show a ≤ a + n; omega, by show a + n ≤ s.length; omega, ?_⟩
            show Wordy ((s.take (a + n)).drop a)
            have hu := Un.of hl (by rw [h1]; decide)
            rw [h1, hn] at hu
            rw [cut_new ha]
            exact ⟨[(s.drop a).take n], by simp, by simp, .inl ⟨_, rfl, hu⟩⟩
      rw [hn] at hr
      exact wRun_ok s k (a + n) _ _ (by omega) hst.1 hst.2 r hr
theorem list_wordy {s w : List UInt8} (h : w ∈ listP s) : ∃ u, Wordy u ∧ w = foldP u := by
  unfold listP at h
  obtain ⟨r, hr, rfl⟩ := List.mem_map.1 h
  have := wRun_ok s s.length 0 (-1) [] (Nat.zero_le _) (fun r hr => by cases hr) (fun h => absurd h (by decide)) r hr
  exact ⟨_, this.2.2, rfl⟩
theorem wFrom_un {k : Int} {x : List UInt8} (h : Un k x) (hk : k ≠ 0) (t : List UInt8) (a : Nat) (f : Int) (ws : List (Nat × Nat)) : wFrom (x ++ t) a f ws = wFrom t (a + x.length) (wStep (x ++ t) a f ws).1 (wStep (x ++ t) a f ws).2 := by
  have ha := h.app hk t
  rw [wFrom_cons (by simp [h.1]), ha.1, h.2.1, List.drop_left]
theorem wFrom_open : ∀ (us : List (List UInt8)) (a : Nat) (f : Int) (ws : List (Nat × Nat)), (∀ x, x ∈ us → Un 1 x) → 0 ≤ f → (a : Int) + us.flatten.length - f ≤ 40 → wFrom us.flatten a f ws = ws ++ [(f.toNat, a + us.flatten.length)]
  | [], a, f, ws, _, h0, _ => by
    rw [List.flatten_nil, wFrom_nil]; unfold wEnd; rw [if_pos h0]; rfl
  | x :: r, a, f, ws, h, h0, h1 => by
    have hx := h x (by simp)
    have ha := hx.app (by decide) r.flatten
    rw [List.flatten_cons, List.length_append] at h1
    have hs : wStep (x ++ r.flatten) a f ws = (f, ws) := by
      unfold wStep
      rw [ha.2, ha.1, hx.2.1, if_neg (by decide), if_neg (by decide), if_neg (by omega), if_neg (by omega)]
    rw [List.flatten_cons, wFrom_un hx (by decide), hs, wFrom_open r _ f ws (fun y hy => h y (by simp [hy])) h0 (by omega), List.length_append, Nat.add_assoc]
theorem wordy_list {v : List UInt8} (h : Wordy v) (hf : foldP v = v) : listP v = [v] := by
  have hr : rangesP v = [(0, v.length)] := by
    obtain ⟨us, h0, rfl, h1⟩ := h
    show wFrom us.flatten 0 (-1) [] = _
    cases us with
    | nil => exact absurd rfl h0
    | cons x r =>
      rcases h1 with ⟨y, hy, hu⟩ | ⟨h1, h2⟩
      · injection hy with e1 e2
        subst e1; subst e2
        have ha := hu.app (by decide) ([] : List (List UInt8)).flatten
        rw [List.flatten_cons, wFrom_un hu (by decide)]
        have hs : wStep (x ++ ([] : List (List UInt8)).flatten) 0 (-1) [] = (-1, [(0, x.length)]) := by
          unfold wStep
          rw [ha.2, ha.1, hu.2.1, if_neg (by decide), if_pos rfl]
          simp [wEnd]
        rw [hs, List.flatten_nil, wFrom_nil, List.append_nil]
        rfl
      · have hx := h1 x (by simp)
        have ha := hx.app (by decide) r.flatten
        rw [List.flatten_cons] at h2 ⊢
        rw [List.length_append] at h2 ⊢
        rw [wFrom_un hx (by decide)]
        have hs : wStep (x ++ r.flatten) 0 (-1) [] = (0, []) := by
          unfold wStep
          rw [ha.2, if_neg (by decide), if_neg (by decide), if_neg (by omega), if_pos (by omega)]
          rfl
        rw [hs, wFrom_open r _ 0 [] (fun y hy => h1 y (by simp [hy])) (Int.le_refl _) (by omega)]
        simp
  unfold listP
  rw [hr]
  show [wordAt v (0, v.length)] = _
  unfold wordAt
  rw [List.drop_zero, List.take_length, hf]
theorem Wordy.fold {u : List UInt8} (h : Wordy u) : Wordy (foldP u) ∧ foldP (foldP u) = foldP u := by
  obtain ⟨us, h0, rfl, h1⟩ := h
  have key : ∀ k : Int, k ≠ 0 → (∀ x, x ∈ us → Un k x) → foldP us.flatten = (us.map foldU).flatten ∧ (∀ x, x ∈ us.map foldU → Un k x) ∧ foldP (us.map foldU).flatten = (us.map foldU).flatten := fun k hk hu => by
    have h2 : ∀ x, x ∈ us.map foldU → Un k x := fun x hx => by
      obtain ⟨y, hy, rfl⟩ := List.mem_map.1 hx
      exact ((hu y hy).fold hk).2.1
    refine ⟨foldP_flat hk us hu, h2, ?_⟩
    rw [foldP_flat hk _ h2]
    congr 1
    rw [List.map_map]
    exact List.map_congr_left fun x hx => ((hu x hx).fold hk).2.2.2
  rcases h1 with ⟨x, rfl, hx⟩ | ⟨h1, h2⟩
  · obtain ⟨k1, k2, k3⟩ := key 2 (by decide) fun y hy => by rw [List.mem_singleton] at hy; subst hy; exact hx
    rw [k1]
    exact ⟨⟨[x].map foldU, by simp, rfl, .inl ⟨foldU x, rfl, k2 _ (by simp)⟩⟩, k3⟩
  · obtain ⟨k1, k2, k3⟩ := key 1 (by decide) h1
    have hl := foldP_len _ us.flatten (Nat.le_refl _)
    rw [k1] at hl ⊢
    exact ⟨⟨us.map foldU, by simpa using h0, rfl, .inr ⟨k2, by omega⟩⟩, k3⟩
/-- A word of a text is its own one word. -/
theorem list_stable {s w : List UInt8} (h : w ∈ listP s) : listP w = [w] := by
  obtain ⟨u, hu, rfl⟩ := list_wordy h
  exact wordy_list hu.fold.1 hu.fold.2
end Go.Proofs.YtfinpehbpcckaaaGreatDoor
end
section
namespace Go.Proofs.YtfinpehbpcckaaaGreatDoor
set_option linter.unusedVariables false

theorem cmpB_self : ∀ a : List UInt8, Lib.compareBytes a a = 0
  | [] => rfl
  | a :: r => by
    unfold Lib.compareBytes
    rw [if_neg (UInt8.lt_irrefl a), if_neg (UInt8.lt_irrefl a)]
    exact cmpB_self r
theorem cmpB_zero : ∀ a b : List UInt8, Lib.compareBytes a b = 0 → a = b
  | [], [], _ => rfl
  | [], _ :: _, h => by unfold Lib.compareBytes at h; exact absurd h (by decide)
  | _ :: _, [], h => by unfold Lib.compareBytes at h; exact absurd h (by decide)
  | a :: r, b :: t, h => by
    unfold Lib.compareBytes at h
    split at h
    · exact absurd h (by decide)
    · split at h
      · exact absurd h (by decide)
      · rename_i h1 h2
        have : a = b := by
          rw [UInt8.lt_iff_toNat_lt] at h1 h2
          exact UInt8.toNat_inj.1 (by omega)
        rw [this, cmpB_zero r t h]
theorem cmpB_swap : ∀ a b : List UInt8, Lib.compareBytes b a = - Lib.compareBytes a b
  | [], [] => rfl
  | [], _ :: _ => rfl
  | _ :: _, [] => rfl
  | a :: r, b :: t => by
    unfold Lib.compareBytes
    by_cases h1 : a < b
    · have h2 : ¬ b < a := by rw [UInt8.lt_iff_toNat_lt] at *; omega
      rw [if_pos h1, if_neg h2, if_pos h1]; rfl
    · by_cases h2 : b < a
      · rw [if_pos h2, if_neg h1, if_pos h2]
      · rw [if_neg h2, if_neg h1, if_neg h1, if_neg h2]; exact cmpB_swap r t
theorem cmpB_trans : ∀ a b c : List UInt8, Lib.compareBytes a b < 0 → Lib.compareBytes b c < 0 → Lib.compareBytes a c < 0
  | [], [], _, h, _ => by unfold Lib.compareBytes at h; exact absurd h (by decide)
  | _ :: _, [], _, h, _ => by unfold Lib.compareBytes at h; exact absurd h (by decide)
  | _, _ :: _, [], _, h => by unfold Lib.compareBytes at h; exact absurd h (by decide)
  | [], _ :: _, _ :: _, _, _ => by unfold Lib.compareBytes; decide
  | a :: r, b :: t, c :: u, h1, h2 => by
    unfold Lib.compareBytes at h1 h2 ⊢
    simp only [UInt8.lt_iff_toNat_lt] at *
    by_cases hac : a.toNat < c.toNat
    · rw [if_pos hac]; decide
    · rw [if_neg hac]
      by_cases hab : a.toNat < b.toNat
      · rw [if_neg (by omega), if_pos (by omega)] at h2
        exact absurd h2 (by decide)
      · rw [if_neg hab] at h1
        by_cases hba : b.toNat < a.toNat
        · rw [if_pos hba] at h1; exact absurd h1 (by decide)
        · rw [if_neg hba] at h1
          by_cases hbc : b.toNat < c.toNat
          · omega
          · rw [if_neg hbc] at h2
            by_cases hcb : c.toNat < b.toNat
            · rw [if_pos hcb] at h2; exact absurd h2 (by decide)
            · rw [if_neg hcb] at h2
              rw [if_neg (by omega)]
              exact cmpB_trans r t u h1 h2
def keyT (t : Trm) : Int × List UInt8 := (t.field, t.word)
theorem cmpT_self (a : Trm) : cmpT a a = 0 := by unfold cmpT; rw [if_neg (Int.lt_irrefl _), if_neg (Int.lt_irrefl _)]; exact cmpB_self _
theorem cmpT_zero {a b : Trm} (h : cmpT a b = 0) : keyT a = keyT b := by
  unfold cmpT at h
  split at h
  · exact absurd h (by decide)
  · split at h
    · exact absurd h (by decide)
    · exact Prod.ext (by show a.field = b.field; omega) (cmpB_zero _ _ h)
theorem cmpT_swap (a b : Trm) : cmpT b a = - cmpT a b := by
  unfold cmpT
  by_cases h1 : a.field < b.field
  · rw [if_neg (by omega), if_pos h1, if_pos h1]; rfl
  · by_cases h2 : b.field < a.field
    · rw [if_pos h2, if_neg h1, if_pos h2]
    · rw [if_neg h2, if_neg h1, if_neg h1, if_neg h2]; exact cmpB_swap _ _
theorem cmpT_trans {a b c : Trm} (h1 : cmpT a b < 0) (h2 : cmpT b c < 0) : cmpT a c < 0 := by
  unfold cmpT at h1 h2 ⊢
  by_cases hac : a.field < c.field
  · rw [if_pos hac]; decide
  · rw [if_neg hac]
    by_cases hab : a.field < b.field
    · rw [if_neg (by omega), if_pos (by omega)] at h2
      exact absurd h2 (by decide)
    · rw [if_neg hab] at h1
      by_cases hba : b.field < a.field
      · rw [if_pos hba] at h1; exact absurd h1 (by decide)
      · rw [if_neg hba] at h1
        by_cases hbc : b.field < c.field
        · omega
        · rw [if_neg hbc] at h2
          by_cases hcb : c.field < b.field
          · rw [if_pos hcb] at h2; exact absurd h2 (by decide)
          · rw [if_neg hcb] at h2
            rw [if_neg (by omega)]
            exact cmpB_trans _ _ _ h1 h2
theorem cmpT_congr {a b c d : Trm} (h1 : keyT a = keyT c) (h2 : keyT b = keyT d) : cmpT a b = cmpT c d := by
  obtain ⟨f1, w1⟩ := Prod.mk.inj h1
  obtain ⟨f2, w2⟩ := Prod.mk.inj h2
  unfold cmpT; rw [f1, w1, f2, w2]
/-- Two ascending lists with the same members are one. -/
theorem asc_ext_of {α : Type} (R : α → α → Prop) (irr : ∀ x, ¬ R x x) (tr : ∀ x y z, R x y → R y z → R x z) : ∀ a b : List α, a.Pairwise R → b.Pairwise R → (∀ x, x ∈ a ↔ x ∈ b) → a = b
  | [], [], _, _, _ => rfl
  | [], y :: t, _, _, h => absurd ((h y).2 (by simp)) (by simp)
  | x :: r, [], _, _, h => absurd ((h x).1 (by simp)) (by simp)
  | x :: r, y :: t, ha, hb, h => by
    rw [List.pairwise_cons] at ha hb
    have e : x = y := by
      rcases List.mem_cons.1 ((h x).1 (by simp)) with e | e
      · exact e
      · rcases List.mem_cons.1 ((h y).2 (by simp)) with e2 | e2
        · exact e2.symm
        · exact absurd (tr _ _ _ (ha.1 y e2) (hb.1 x e)) (irr x)
    subst e
    congr 1
    refine asc_ext_of R irr tr r t ha.2 hb.2 fun z => ?_
    constructor
    · intro hz
      rcases List.mem_cons.1 ((h z).1 (by simp [hz])) with e | e
      · subst e; exact absurd (ha.1 z hz) (irr z)
      · exact e
    · intro hz
      rcases List.mem_cons.1 ((h z).2 (by simp [hz])) with e | e
      · subst e; exact absurd (hb.1 z hz) (irr z)
      · exact e
end Go.Proofs.YtfinpehbpcckaaaGreatDoor
end
section
namespace Go.Proofs.YtfinpehbpcckaaaGreatDoor
set_option linter.unusedVariables false

/-- The postings of a key, by ascending documents. -/
def postsE (evs : List Ev) (docs : List Int) (t : Key) : List Post := (docs.filter fun d => !(placesE evs t d).isEmpty).map fun d => ⟨d, placesE evs t d⟩
structure Built (U : List Ent) (s : Seg) : Prop where
  docs : s.docs.Pairwise (· < ·)
  docs_mem : ∀ d, d ∈ s.docs ↔ ∃ e, e ∈ U ∧ e.doc = d
  terms : s.terms.Pairwise fun a b => cmpT a b < 0
  terms_mem : ∀ t : Key, (∃ x, x ∈ s.terms ∧ keyT x = t) ↔ ∃ e, e ∈ evsOf U ∧ e.1 = t
  lists : ∀ x, x ∈ s.terms → x.list = postEnc (postsE (evsOf U) s.docs (keyT x))
theorem Trm.ext_key {x y : Trm} (h : keyT x = keyT y) (h2 : x.list = y.list) : x = y := by
  obtain ⟨a, b, c⟩ := x
  obtain ⟨d, e, f⟩ := y
  obtain ⟨e1, e2⟩ := Prod.mk.inj h
  dsimp only at e1 e2 h2
  subst e1; subst e2; subst h2; rfl
theorem Built.unique {U : List Ent} {s t : Seg} (h : Built U s) (k : Built U t) : s = t := by
  have hd : s.docs = t.docs := asc_ext _ _ h.docs k.docs fun x => by rw [h.docs_mem, k.docs_mem]
  have ht : s.terms = t.terms := by
    refine asc_ext_of (fun a b => cmpT a b < 0) (fun x => by rw [cmpT_self]; decide) (fun x y z => cmpT_trans) _ _ h.terms k.terms fun x => ?_
    constructor
    · intro hx
      obtain ⟨y, hy, e⟩ := (k.terms_mem (keyT x)).2 ((h.terms_mem (keyT x)).1 ⟨x, hx, rfl⟩)
      have : y = x := Trm.ext_key e (by rw [k.lists y hy, h.lists x hx, hd, e])
      rwa [this] at hy
    · intro hx
      obtain ⟨y, hy, e⟩ := (h.terms_mem (keyT x)).2 ((k.terms_mem (keyT x)).1 ⟨x, hx, rfl⟩)
      have : y = x := Trm.ext_key e (by rw [h.lists y hy, k.lists x hx, hd, e])
      rwa [this] at hy
  obtain ⟨a, b⟩ := s
  obtain ⟨c, d⟩ := t
  dsimp only at hd ht
  subst hd; subst ht; rfl

/-- The places of a word in a list of words. -/
def idxs (w : List UInt8) (L : List (List UInt8)) : List Int := (L.zipIdx.filter fun q => decide (q.1 = w)).map fun q => (q.2 : Int)
theorem zip_asc {α : Type} : ∀ (L : List α) (k : Nat), (L.zipIdx k).Pairwise (fun p q => p.2 < q.2) ∧ ∀ p, p ∈ L.zipIdx k → k ≤ p.2 ∧ p.2 < k + L.length
  | [], k => ⟨by simp, fun p hp => by simp at hp⟩
  | x :: r, k => by
    obtain ⟨h1, h2⟩ := zip_asc r (k + 1)
    rw [List.zipIdx_cons]
    refine ⟨?_, fun p hp => ?_⟩
    · rw [List.pairwise_cons]
      exact ⟨fun q hq => by have := h2 q hq; show k < q.2; omega, h1⟩
    · rcases List.mem_cons.1 hp with rfl | hp
      · simp
      · have := h2 p hp; rw [List.length_cons]; omega
theorem idxs_asc (w : List UInt8) (L : List (List UInt8)) : (idxs w L).Pairwise (· < ·) := by
  unfold idxs
  rw [List.pairwise_map]
  refine List.Pairwise.imp ?_ ((zip_asc L 0).1.filter _)
  intro p q h
  omega
theorem idxs_mem {w : List UInt8} {L : List (List UInt8)} {k : Int} : k ∈ idxs w L ↔ ∃ j : Nat, k = j ∧ L[j]? = some w := by
  unfold idxs
  rw [List.mem_map]
  constructor
  · rintro ⟨q, hq, rfl⟩
    obtain ⟨hq, hw⟩ := List.mem_filter.1 hq
    have hw := of_decide_eq_true hw
    exact ⟨q.2, rfl, by rw [← hw]; exact List.mem_zipIdx_iff_getElem?.1 hq⟩
  · rintro ⟨j, rfl, hj⟩
    exact ⟨(w, j), List.mem_filter.2 ⟨List.mem_zipIdx_iff_getElem?.2 hj, by simp⟩, rfl⟩
theorem idxs_len (w : List UInt8) (L : List (List UInt8)) : (idxs w L).length ≤ L.length := by
  unfold idxs
  rw [List.length_map]
  refine Nat.le_trans (List.length_filter_le _ _) ?_
  rw [List.length_zipIdx]; exact Nat.le_refl _
theorem placesE_app (a b : List Ev) (t : Key) (d : Int) : placesE (a ++ b) t d = placesE a t d ++ placesE b t d := by simp [placesE]
theorem placesE_own (e : Ent) (w : List UInt8) : placesE (evOf e) (e.field, w) e.doc = idxs w (listP e.text) := by
  unfold placesE evOf idxs
  rw [List.filter_map, List.map_map]
  congr 1
  refine List.filter_congr fun q hq => ?_
  simp
theorem placesE_not (e : Ent) (w : List UInt8) (f d : Int) (h : ¬ (e.doc = d ∧ e.field = f)) : placesE (evOf e) (f, w) d = [] := by
  refine placesE_none fun x hx => ?_
  unfold evOf at hx
  obtain ⟨q, _, rfl⟩ := List.mem_map.1 hx
  rintro ⟨h1, h2⟩
  exact h ⟨h2, (Prod.mk.inj h1).1⟩
/-- Entries of which none has another's document and field. -/
def Apart (U : List Ent) : Prop := (U.map spotE).Nodup
theorem usedE_apart (es : List Ent) : Apart (usedE es) := by
  have key : ∀ (es U : List Ent), Apart U → Apart (es.foldl useE U) := by
    intro es
    induction es with
    | nil => intro U h; exact h
    | cons e r ih =>
      intro U h
      rw [List.foldl_cons]
      refine ih _ ?_
      unfold useE
      split
      · rename_i h1
        unfold Apart
        rw [List.map_append, List.nodup_append]
        refine ⟨h, by simp, fun x hx y hy e1 => ?_⟩
        simp at hy
        subst hy; subst e1
        exact h1.2 hx
      · exact h
  exact key es [] (by simp [Apart])
theorem usedE_counts (es : List Ent) : ∀ e, e ∈ usedE es → countsP e.doc e.field = true := by
  have key : ∀ (es U : List Ent), (∀ e, e ∈ U → countsP e.doc e.field = true) → ∀ e, e ∈ es.foldl useE U → countsP e.doc e.field = true := by
    intro es
    induction es with
    | nil => intro U h; exact h
    | cons e r ih =>
      intro U h
      rw [List.foldl_cons]
      refine ih _ ?_
      unfold useE
      split
      · rename_i h1
        intro x hx
        rcases List.mem_append.1 hx with hx | hx
        · exact h x hx
        · rw [List.mem_singleton] at hx; subst hx; exact h1.1
      · exact h
  exact key es [] (fun e he => by cases he)
theorem placesE_in : ∀ {U : List Ent} {e : Ent}, Apart U → e ∈ U → ∀ w, placesE (evsOf U) (e.field, w) e.doc = idxs w (listP e.text)
  | [], e, _, he, w => by cases he
  | x :: r, e, ha, he, w => by
    have ha2 := ha
    unfold Apart at ha
    rw [List.map_cons, List.nodup_cons] at ha
    show placesE (evOf x ++ evsOf r) _ _ = _
    rw [placesE_app]
    rcases List.mem_cons.1 he with e1 | e1
    · subst e1
      rw [placesE_own]
      have : placesE (evsOf r) (e.field, w) e.doc = [] := by
        refine placesE_none fun z hz => ?_
        unfold evsOf at hz
        obtain ⟨y, hy, hz⟩ := List.mem_flatMap.1 hz
        unfold evOf at hz
        obtain ⟨q, _, rfl⟩ := List.mem_map.1 hz
        rintro ⟨h1, h2⟩
        refine ha.1 (List.mem_map.2 ⟨y, hy, ?_⟩)
        exact Prod.ext h2 (Prod.mk.inj h1).1
      rw [this, List.append_nil]
    · rw [placesE_in (e := e) ha.2 e1 w]
      rw [placesE_not, List.nil_append]
      rintro ⟨h1, h2⟩
      refine ha.1 (List.mem_map.2 ⟨e, e1, ?_⟩)
      exact Prod.ext h1.symm h2.symm
theorem placesE_out {U : List Ent} {f d : Int} (h : ∀ e, e ∈ U → ¬ (e.doc = d ∧ e.field = f)) (w : List UInt8) : placesE (evsOf U) (f, w) d = [] := by
  refine placesE_none fun z hz => ?_
  unfold evsOf at hz
  obtain ⟨y, hy, hz⟩ := List.mem_flatMap.1 hz
  unfold evOf at hz
  obtain ⟨q, _, rfl⟩ := List.mem_map.1 hz
  rintro ⟨h1, h2⟩
  exact h y hy ⟨h2, (Prod.mk.inj h1).1⟩
theorem placesE_cases {U : List Ent} (ha : Apart U) (t : Key) (d : Int) : placesE (evsOf U) t d = [] ∨ ∃ e, e ∈ U ∧ e.doc = d ∧ e.field = t.1 ∧ placesE (evsOf U) t d = idxs t.2 (listP e.text) := by
  by_cases h : ∃ e, e ∈ U ∧ e.doc = d ∧ e.field = t.1
  · obtain ⟨e, he, h1, h2⟩ := h
    refine .inr ⟨e, he, h1, h2, ?_⟩
    have := placesE_in ha he t.2
    rw [h1, h2] at this
    exact this
  · refine .inl (placesE_out (f := t.1) (d := d) (fun e he hh => h ⟨e, he, hh⟩) t.2)
/-- The entries of a law: few and short. -/
structure EFew (U : List Ent) : Prop where
  len : U.length ≤ 24
  text : ∀ e, e ∈ U → e.text.length ≤ 200
theorem wRun_few : ∀ (k : Nat) (l : List UInt8) (a : Nat) (f : Int) (ws : List (Nat × Nat)), (wRun k l a f ws).length ≤ ws.length + (if 0 ≤ f then 1 else 0) + l.length
  | 0, l, a, f, ws => by
    show (wEnd f a ws).length ≤ _
    unfold wEnd
    split
    · simp
    · omega
  | k + 1, l, a, f, ws => by
    have hend : (wEnd f a ws).length = ws.length + (if 0 ≤ f then 1 else 0) := by
      unfold wEnd
      split <;> simp
    unfold wRun
    by_cases hl : l = []
    · rw [if_pos hl, hend]; omega
    · rw [if_neg hl]
      have hp := uN_pos l hl
      have ih := wRun_few k (l.drop (uN l).2) (a + (uN l).2) (wStep l a f ws).1 (wStep l a f ws).2
      rw [List.length_drop] at ih
      have hs : (wStep l a f ws).2.length + (if 0 ≤ (wStep l a f ws).1 then 1 else 0) ≤ ws.length + (if 0 ≤ f then 1 else 0) + 1 := by
        unfold wStep
        split
        · show (wEnd f a ws).length + 0 ≤ _
          rw [hend]; omega
        · split
          · show (wEnd f a ws ++ [(a, a + (uN l).2)]).length + 0 ≤ _
            rw [List.length_append, hend, List.length_singleton]; omega
          · split
            · show (wEnd f a ws).length + (if (0 : Int) ≤ (a : Int) then 1 else 0) ≤ _
              rw [hend, if_pos (by omega : (0 : Int) ≤ (a : Int))]; omega
            · split
              · show ws.length + (if (0 : Int) ≤ (a : Int) then 1 else 0) ≤ _
                rw [if_pos (by omega : (0 : Int) ≤ (a : Int))]; omega
              · show ws.length + (if 0 ≤ f then 1 else 0) ≤ _
                omega
      omega
theorem list_few (s : List UInt8) : (listP s).length ≤ s.length := by
  have h := wRun_few s.length s 0 (-1) []
  rw [if_neg (by decide)] at h
  unfold listP
  rw [List.length_map]
  show (wRun s.length s 0 (-1) []).length ≤ _
  simpa using h
theorem evs_few {U : List Ent} {N : Nat} (h : ∀ e, e ∈ U → e.text.length ≤ N) : (evsOf U).length ≤ N * U.length := by
  induction U with
  | nil => simp [evsOf]
  | cons a r ih =>
    have h1 := h a (by simp)
    have h2 := ih fun e he => h e (by simp [he])
    have h3 := list_few a.text
    have : (evsOf (a :: r)).length = (evOf a).length + (evsOf r).length := by simp [evsOf]
    rw [this, evOf_len, List.length_cons, Nat.mul_add]; omega
theorem countsP_iff {d f : Int} : countsP d f = true ↔ (1 ≤ d ∧ d ≤ far) ∧ (1 ≤ f ∧ f ≤ 5) := by unfold countsP; rw [decide_eq_true_eq]
theorem postsE_mem {evs : List Ev} {docs : List Int} {t : Key} {p : Post} : p ∈ postsE evs docs t ↔ p.doc ∈ docs ∧ placesE evs t p.doc ≠ [] ∧ p.places = placesE evs t p.doc := by
  unfold postsE
  rw [List.mem_map]
  constructor
  · rintro ⟨d, hd, rfl⟩
    obtain ⟨h1, h2⟩ := List.mem_filter.1 hd
    exact ⟨h1, by simpa using h2, rfl⟩
  · rintro ⟨h1, h2, h3⟩
    refine ⟨p.doc, List.mem_filter.2 ⟨h1, by simpa using h2⟩, ?_⟩
    obtain ⟨a, b⟩ := p
    dsimp only at h3 ⊢
    rw [h3]
theorem postsE_docs (evs : List Ev) (docs : List Int) (t : Key) : (postsE evs docs t).map (·.doc) = docs.filter fun d => !(placesE evs t d).isEmpty := by
  unfold postsE
  rw [List.map_map]
  exact List.map_id _
/-- The entries of which a segment is built. -/
structure Goods (U : List Ent) : Prop where
  apart : Apart U
  counts : ∀ e, e ∈ U → countsP e.doc e.field = true
  short : ∀ e, e ∈ U → e.text.length ≤ 100000
theorem Built.docs_in {U : List Ent} {s : Seg} (h : Built U s) (g : Goods U) : ∀ d, d ∈ s.docs → 1 ≤ d ∧ d ≤ far := fun d hd => by
  obtain ⟨e, he, rfl⟩ := (h.docs_mem d).1 hd
  exact (countsP_iff.1 (g.counts e he)).1
theorem Built.right_posts {U : List Ent} {s : Seg} (h : Built U s) (g : Goods U) (t : Key) : postRight (postsE (evsOf U) s.docs t) = true := by
  rw [postRight_iff]
  constructor
  · intro p hp
    obtain ⟨h1, h2, h3⟩ := postsE_mem.1 hp
    rw [h3]
    refine ⟨h2, ?_⟩
    rcases placesE_cases g.apart t p.doc with h4 | ⟨e, he, h5, h6, h7⟩
    · exact absurd h4 h2
    · rw [h7]
      refine risesP_of _ _ (fun x hx => ?_) (idxs_asc _ _)
      obtain ⟨j, rfl, hj⟩ := idxs_mem.1 hx
      have h8 := (List.getElem?_eq_some_iff.1 hj).1
      have h9 := list_few e.text
      have h10 := g.short e he
      have hf : far = 1099511627776 := rfl
      omega
  · rw [postsE_docs]
    exact risesP_of _ _ (fun x hx => h.docs_in g x (List.mem_filter.1 hx).1) (h.docs.filter _)
theorem ev_mem {U : List Ent} {x : Ev} (h : x ∈ evsOf U) : ∃ e, e ∈ U ∧ x.1.1 = e.field ∧ x.2.1 = e.doc ∧ x.1.2 ∈ listP e.text := by
  unfold evsOf at h
  obtain ⟨y, hy, hz⟩ := List.mem_flatMap.1 h
  unfold evOf at hz
  obtain ⟨q, hq, rfl⟩ := List.mem_map.1 hz
  exact ⟨y, hy, rfl, rfl, List.mem_of_getElem? (List.mem_zipIdx_iff_getElem?.1 hq)⟩
theorem ev_of {U : List Ent} {e : Ent} {w : List UInt8} (he : e ∈ U) (hw : w ∈ listP e.text) : ∃ k : Int, ((e.field, w), e.doc, k) ∈ evsOf U := by
  obtain ⟨j, hj⟩ := List.getElem?_of_mem hw
  refine ⟨j, ?_⟩
  unfold evsOf
  refine List.mem_flatMap.2 ⟨e, he, ?_⟩
  unfold evOf
  exact List.mem_map.2 ⟨(w, j), List.mem_zipIdx_iff_getElem?.2 hj, rfl⟩
theorem placesE_ev {evs : List Ev} {t : Key} {d k : Int} (h : (t, d, k) ∈ evs) : placesE evs t d ≠ [] := by
  unfold placesE
  intro e
  rw [List.map_eq_nil_iff, List.filter_eq_nil_iff] at e
  exact e _ h (by simp)
theorem Built.posts_ne {U : List Ent} {s : Seg} (h : Built U s) {x : Trm} (hx : x ∈ s.terms) : postsE (evsOf U) s.docs (keyT x) ≠ [] := by
  obtain ⟨e, he, e1⟩ := (h.terms_mem (keyT x)).1 ⟨x, hx, rfl⟩
  obtain ⟨t, d, k⟩ := e
  dsimp only at e1
  subst e1
  obtain ⟨y, hy, _, hd, _⟩ := ev_mem he
  have hdd : d ∈ s.docs := (h.docs_mem d).2 ⟨y, hy, hd.symm⟩
  intro e2
  have : (⟨d, placesE (evsOf U) (keyT x) d⟩ : Post) ∈ postsE (evsOf U) s.docs (keyT x) := postsE_mem.2 ⟨hdd, placesE_ev he, rfl⟩
  rw [e2] at this
  cases this
/-- Valid, where each encoded list is shorter than any memory. -/
theorem Built.right {U : List Ent} {s : Seg} (h : Built U s) (g : Goods U) (hl : ∀ x, x ∈ s.terms → x.list.length < 9223372036854775808) : rightP s = true := by
  rw [rightP_iff]
  constructor
  · intro k hk
    unfold docAt
    rw [decide_eq_true_eq, gi_get hk]
    refine ⟨h.docs_in g _ (List.getElem_mem hk), ?_⟩
    by_cases h0 : k = 0
    · exact .inl h0
    · right
      rw [gi_get (by omega)]
      exact List.pairwise_iff_getElem.1 h.docs (k - 1) k (by omega) hk (by omega)
  · intro k hk
    have hx := List.getElem_mem hk
    have hdec : postDec s.terms[k].list = some (postsE (evsOf U) s.docs (keyT s.terms[k])) := by
      have h1 := h.lists _ hx
      have h2 := hl _ hx
      rw [h1] at h2 ⊢
      exact postDec_enc (h.right_posts g _) h2
    obtain ⟨ev, hev, e1⟩ := (h.terms_mem (keyT s.terms[k])).1 ⟨_, hx, rfl⟩
    obtain ⟨y, hy, hf, _, hw⟩ := ev_mem hev
    rw [e1] at hf hw
    unfold termAt
    rw [ti_get hk, Bool.and_eq_true, Bool.and_eq_true, Bool.and_eq_true]
    refine ⟨⟨⟨?_, ?_⟩, ?_⟩, ?_⟩
    · rw [decide_eq_true_eq]
      have := (countsP_iff.1 (g.counts y hy)).2
      have hf2 : s.terms[k].field = y.field := hf
      omega
    · rw [Bool.or_eq_true, decide_eq_true_eq, decide_eq_true_eq]
      by_cases h0 : k = 0
      · exact .inl h0
      · right
        rw [ti_get (by omega)]
        exact List.pairwise_iff_getElem.1 h.terms (k - 1) k (by omega) hk (by omega)
    · rw [decide_eq_true_eq]
      exact list_stable hw
    · unfold listedP
      rw [hdec]
      show ((postsE (evsOf U) s.docs (keyT s.terms[k])).all fun x => s.docs.contains x.doc) && !(postsE (evsOf U) s.docs (keyT s.terms[k])).isEmpty
      rw [Bool.and_eq_true, List.all_eq_true]
      refine ⟨fun p hp => ?_, ?_⟩
      · have := (postsE_mem.1 hp).1
        simpa using this
      · simpa using h.posts_ne hx
end Go.Proofs.YtfinpehbpcckaaaGreatDoor
end
section
namespace Go.Proofs.YtfinpehbpcckaaaGreatDoor
open Go.RowKit
set_option linter.unusedVariables false

theorem zero4 (w : World) : (zeroValue 4).run Tryz.prog w = .ok (.bool false) w := by kernel_rfl
theorem zero61 (w : World) : (zeroValue 61).run Tryz.prog w = .ok (.map none) w := by kernel_rfl
theorem zero26 (w : World) : (zeroValue 26).run Tryz.prog w = .ok (.slice none 0 0) w := by kernel_rfl
theorem evsOf_len (U : List Ent) (N : Nat) (h : ∀ e, e ∈ U → (listP e.text).length ≤ N) : (evsOf U).length ≤ N * U.length := by
  induction U with
  | nil => simp [evsOf]
  | cons a r ih =>
    have h1 := h a (by simp)
    have h2 := ih fun e he => h e (by simp [he])
    have : (evsOf (a :: r)).length = (evOf a).length + (evsOf r).length := by simp [evsOf]
    rw [this, evOf_len, List.length_cons, Nat.mul_add]; omega
structure EntsFew (es : List Ent) : Prop where
  len : es.length ≤ 1000
  text : ∀ e, e ∈ es → e.text.length ≤ 100000
theorem EntsFew.evs {es : List Ent} (h : EntsFew es) (k : Nat) : (evsOf (usedE (es.take k))).length ≤ 200001000 ∧ ∀ e, e ∈ es → (listP e.text).length ≤ 200001 := by
  have hl : ∀ e, e ∈ es → (listP e.text).length ≤ 200001 := fun e he => by
    have h1 := ranges_len e.text
    have h2 := h.text e he
    unfold listP
    rw [List.length_map]; omega
  refine ⟨?_, hl⟩
  have h1 := evsOf_len (usedE (es.take k)) 200001 fun e he => by
    rcases usedE_mem (es.take k) [] e he with h2 | h2
    · cases h2
    · exact hl e (List.mem_of_mem_take h2)
  have h2 := usedE_len (es.take k) []
  have h3 := h.len
  have h4 : (usedE (es.take k)).length ≤ 1000 := by unfold usedE; rw [List.length_take] at h2; simp only [List.length_nil] at h2; omega
  have h5 := Nat.mul_le_mul_left 200001 h4
  omega
def BRel (w : World) (g : Nat) (es : List Ent) (k : Nat) (wr : World) : Prop :=
  ∃ c tag km, c ≤ k + 2 * (evsOf (usedE (es.take k))).length ∧ BSt w g (g + 1) (g + 1 + 1) (g + 1 + 1 + 1) (usedE (es.take k)) (evsOf (usedE (es.take k))) c tag km wr
/-- The state at the inner loop's head. -/
def IRel (w w4 : World) (tag4 : Nat → Own) (T : Nat) (evs0 : List Ev) (ev : List Ev) (c0 j : Nat) (wr : World) : Prop :=
  ∃ c tag km, c ≤ c0 + 2 * j ∧ TermsAt wr w.heap.size tag T (evs0 ++ ev.take j) (fun _ => False) km c ∧ Kept w4 tag4 wr tag ∧ Below w.heap.size w wr
set_option maxRecDepth 100000 in
set_option maxHeartbeats 16000000 in
theorem build_start (w : World) (es : List Ent) :
    BRel w w.heap.size es 0 ((((w.alloc (.cells #[.slice none 0 0, .slice none 0 0] 28)).alloc (.map #[] 0)).alloc (.map #[] 0)).alloc (.map #[] 0)) := by
  have z0 : (w.alloc (.cells #[.slice none 0 0, .slice none 0 0] 28)).heap.size = w.heap.size + 1 := by simp
  obtain ⟨W0, hW0⟩ : ∃ W, w.alloc (.cells #[.slice none 0 0, .slice none 0 0] 28) = W := ⟨_, rfl⟩
  have hb0 : W0.heap[w.heap.size]? = some (.cells #[.slice none 0 0, .slice none 0 0] 28 (0, 0)) := by rw [← hW0]; exact (MapKept.heap_alloc w _).1
  have hB0 : Below w.heap.size w W0 := by rw [← hW0]; exact (Below.refl _ _).alloc (Nat.le_refl _) _
  rw [hW0] at z0 ⊢
  have z1 : (W0.alloc (.map #[] 0)).heap.size = W0.heap.size + 1 := by simp
  have z2 : ((W0.alloc (.map #[] 0)).alloc (.map #[] 0)).heap.size = W0.heap.size + 1 + 1 := by simp
  have z3 : (((W0.alloc (.map #[] 0)).alloc (.map #[] 0)).alloc (.map #[] 0)).heap.size = W0.heap.size + 1 + 1 + 1 := by simp
  have s1 := SetAt.made spotK W0
  have s2 := SetAt.made intK (W0.alloc (.map #[] 0))
  have s3 := TermsAt.made (B := w.heap.size) (w := (W0.alloc (.map #[] 0)).alloc (.map #[] 0)) (by omega) rfl
  refine ⟨0, fun b => if b = ((W0.alloc (.map #[] 0)).alloc (.map #[] 0)).heap.size then .top else .out, fun _ => none, Nat.zero_le _, ⟨?_, ?_, ?_, ⟨?_, ?_, ?_⟩, ?_, ?_⟩⟩
  · rw [← z0]
    refine SetAt.congr (P := fun _ => False) (s1.keep ?_) fun x _ => by simp [usedE]
    rw [heap_alloc_old _ _ (by omega), heap_alloc_old _ _ (by omega)]
  · rw [← z0, ← z1]
    refine SetAt.congr (P := fun _ => False) (s2.keep ?_) fun x _ => by simp [usedE]
    rw [heap_alloc_old _ _ (by omega)]
  · rw [← z0, ← z1, ← show ((W0.alloc (.map #[] 0)).alloc (.map #[] 0)).heap.size = (W0.alloc (.map #[] 0)).heap.size + 1 by simp]
    exact s3
  · (try dsimp only); rw [if_neg (by omega)]
  · (try dsimp only); rw [if_neg (by omega)]
  · (try dsimp only); rw [if_neg (by omega)]
  · rw [heap_alloc_old _ _ (by omega), heap_alloc_old _ _ (by omega), heap_alloc_old _ _ (by omega)]; exact hb0
  · exact ((hB0.alloc (by omega) _).alloc (by omega) _).alloc (by omega) _
theorem eqlMap_some (b : Nat) (w : World) : (binOp BinOp.eql 61 (.map (some b)) (.map none)).run Tryz.prog w = .ok (.bool false) w := by kernel_rfl
theorem eqlMap_none (w : World) : (binOp BinOp.eql 61 (.map none) (.map none)).run Tryz.prog w = .ok (.bool true) w := by kernel_rfl
theorem listP_le (s : List UInt8) : ∀ x, x ∈ listP s → x.length ≤ s.length := by
  intro x hx
  unfold listP at hx
  obtain ⟨r, _, rfl⟩ := List.mem_map.1 hx
  unfold wordAt
  rw [foldP_len _ _ (Nat.le_refl _), List.length_drop, List.length_take]
  omega
theorem BSt.below {w : World} {g0 H DD T c : Nat} {U : List Ent} {evs : List Ev} {tag : Nat → Own} {km : Key → Option Value} {wr w' : World} (h : BSt w g0 H DD T U evs c tag km wr) (hb : Below wr.heap.size wr w') : BSt w g0 H DD T U evs c tag km w' :=
  ⟨h.had.keep (hb.block H h.had.lt), h.docs.keep (hb.block DD h.docs.lt), h.terms.below hb, h.out, (hb.block g0 (heap_lt h.box)).trans h.box, h.bel.trans (hb.mono h.bel.size)⟩
theorem countsP_fits {d f : Int} (h : countsP d f = true) : SpotFits (d, f) ∧ intK.fits d := by
  have h1 := of_decide_eq_true h
  have hf : far = 1099511627776 := rfl
  exact ⟨⟨wf64 ⟨by show -9223372036854775808 ≤ d; omega, by show d ≤ 9223372036854775807; omega⟩, wf64 ⟨by show -9223372036854775808 ≤ f; omega, by show f ≤ 9223372036854775807; omega⟩⟩, wf64 ⟨by omega, by omega⟩⟩
end Go.Proofs.YtfinpehbpcckaaaGreatDoor
end
section
namespace Go.Proofs
open Go.Shelf
def Tryz.keysA_ren : Go.Shelf.Ren := ⟨fun | 7 => 34 | 10 => 86 | n => n, fun | 23 => 61 | 26 => 3 | 3 => 26 | 28 => 64 | 0 => 0 | 27 => 63 | 33 => 115 | 4 => 4 | n => n, fun | n => n⟩
theorem Tryz.keysA : Go.Proofs.SlLaysZI.n7 Tryz.prog Tryz.keysA_ren := {
  mixed := by kernel_rfl
  f7 := ⟨Tryz.f34.name, by decide, Tryz.func34.trans (congrArg some (by kernel_rfl))⟩
  f10 := ⟨Tryz.f86.name, by decide, Tryz.func86.trans (congrArg some (by kernel_rfl))⟩
  t0 := Tryz.underlying0
  a0 := Tryz.isAgg0
  z0 := Tryz.sizeOf0
  v0 := Tryz.zeroValue0
  t4 := Tryz.underlying4
  a4 := Tryz.isAgg4
  z4 := Tryz.sizeOf4
  v4 := Tryz.zeroValue4
  t23 := Tryz.underlying61
  a23 := Tryz.isAgg61
  z23 := Tryz.sizeOf61
  v23 := Tryz.zeroValue61
  t26 := Tryz.underlying3
  a26 := Tryz.isAgg3
  z26 := Tryz.sizeOf3
  v26 := Tryz.zeroValue3
  t27 := Tryz.underlying63
  a27 := Tryz.isAgg63
  z27 := Tryz.sizeOf63
  v27 := Tryz.zeroValue63
  t28 := Tryz.underlying64
  a28 := Tryz.isAgg64
  z28 := Tryz.sizeOf64
  v28 := Tryz.zeroValue64
  t33 := Tryz.underlying115
  a33 := Tryz.isAgg115
  z33 := Tryz.sizeOf115
  v33 := Tryz.zeroValue115 }
def Tryz.keysB_ren : Go.Shelf.Ren := ⟨fun | 7 => 38 | 10 => 94 | n => n, fun | 23 => 54 | 26 => 3 | 3 => 4 | 28 => 64 | 0 => 0 | 27 => 63 | 33 => 115 | 4 => 4 | n => n, fun | n => n⟩
theorem Tryz.keysB : Go.Proofs.SlLaysZI.n7 Tryz.prog Tryz.keysB_ren := {
  mixed := by kernel_rfl
  f7 := ⟨Tryz.f38.name, by decide, Tryz.func38.trans (congrArg some (by kernel_rfl))⟩
  f10 := ⟨Tryz.f94.name, by decide, Tryz.func94.trans (congrArg some (by kernel_rfl))⟩
  t0 := Tryz.underlying0
  a0 := Tryz.isAgg0
  z0 := Tryz.sizeOf0
  v0 := Tryz.zeroValue0
  t4 := Tryz.underlying4
  a4 := Tryz.isAgg4
  z4 := Tryz.sizeOf4
  v4 := Tryz.zeroValue4
  t23 := Tryz.underlying54
  a23 := Tryz.isAgg54
  z23 := Tryz.sizeOf54
  v23 := Tryz.zeroValue54
  t26 := Tryz.underlying3
  a26 := Tryz.isAgg3
  z26 := Tryz.sizeOf3
  v26 := Tryz.zeroValue3
  t27 := Tryz.underlying63
  a27 := Tryz.isAgg63
  z27 := Tryz.sizeOf63
  v27 := Tryz.zeroValue63
  t28 := Tryz.underlying64
  a28 := Tryz.isAgg64
  z28 := Tryz.sizeOf64
  v28 := Tryz.zeroValue64
  t33 := Tryz.underlying115
  a33 := Tryz.isAgg115
  z33 := Tryz.sizeOf115
  v33 := Tryz.zeroValue115 }
def Tryz.sortedA_ren : Go.Shelf.Ren := ⟨fun | 6 => 33 | 8 => 84 | 9 => 85 | 11 => 119 | 13 => 90 | 12 => 120 | 23 => 131 | 24 => 132 | 14 => 147 | 15 => 148 | 16 => 149 | 17 => 150 | 18 => 151 | 19 => 152 | 20 => 117 | 21 => 153 | 22 => 154 | 25 => 169 | 26 => 156 | 27 => 157 | 28 => 170 | 29 => 171 | 30 => 133 | 31 => 176 | n => n, fun | 26 => 3 | 28 => 64 | 24 => 26 | 0 => 0 | 3 => 3 | 37 => 120 | 48 => 152 | 50 => 154 | 4 => 4 | 40 => 146 | 39 => 145 | 45 => 112 | 5 => 5 | 9 => 9 | 51 => 172 | 55 => 138 | 57 => 186 | 58 => 187 | 33 => 115 | n => n, fun | n => n⟩
theorem Tryz.sortedA : Go.Proofs.SlLaysZI.n6 Tryz.prog Tryz.sortedA_ren := {
  mixed := by kernel_rfl
  f6 := ⟨Tryz.f33.name, by decide, Tryz.func33.trans (congrArg some (by kernel_rfl))⟩
  f8 := ⟨Tryz.f84.name, by decide, Tryz.func84.trans (congrArg some (by kernel_rfl))⟩
  f11 := ⟨Tryz.f119.name, by decide, Tryz.func119.trans (congrArg some (by kernel_rfl))⟩
  t0 := Tryz.underlying0
  a0 := Tryz.isAgg0
  z0 := Tryz.sizeOf0
  v0 := Tryz.zeroValue0
  t24 := Tryz.underlying26
  a24 := Tryz.isAgg26
  z24 := Tryz.sizeOf26
  v24 := Tryz.zeroValue26
  t26 := Tryz.underlying3
  a26 := Tryz.isAgg3
  z26 := Tryz.sizeOf3
  v26 := Tryz.zeroValue3
  t28 := Tryz.underlying64
  a28 := Tryz.isAgg64
  z28 := Tryz.sizeOf64
  v28 := Tryz.zeroValue64
  i26 := by kernel_rfl }
def Tryz.sortTrm_ren : Go.Shelf.Ren := ⟨fun | 6 => 36 | 15 => 90 | 14 => 89 | 28 => 131 | 29 => 132 | 20 => 123 | 21 => 124 | 22 => 125 | 23 => 126 | 24 => 127 | 25 => 128 | 26 => 129 | 27 => 130 | 46 => 155 | 47 => 156 | 48 => 157 | 49 => 158 | 50 => 159 | 57 => 172 | n => n, fun | 22 => 25 | 24 => 47 | 25 => 68 | 3 => 3 | 39 => 120 | 0 => 0 | 53 => 152 | 55 => 154 | 4 => 4 | 46 => 146 | 45 => 145 | 50 => 112 | 5 => 5 | 9 => 9 | 66 => 172 | 70 => 138 | 76 => 186 | 77 => 187 | n => n, fun | n => n⟩
theorem Tryz.sortTrm : Go.Proofs.SlLaysF0.n6 Tryz.prog Tryz.sortTrm_ren := {
  mixed := by kernel_rfl
  f6 := ⟨Tryz.f36.name, by decide, Tryz.func36.trans (congrArg some (by kernel_rfl))⟩
  f14 := ⟨Tryz.f89.name, by decide, Tryz.func89.trans (congrArg some (by kernel_rfl))⟩
  f15 := Tryz.func90.trans (congrArg some (by kernel_rfl))
  f20 := ⟨Tryz.f123.name, by decide, Tryz.func123.trans (congrArg some (by kernel_rfl))⟩
  f21 := ⟨Tryz.f124.name, by decide, Tryz.func124.trans (congrArg some (by kernel_rfl))⟩
  f22 := ⟨Tryz.f125.name, by decide, Tryz.func125.trans (congrArg some (by kernel_rfl))⟩
  f23 := ⟨Tryz.f126.name, by decide, Tryz.func126.trans (congrArg some (by kernel_rfl))⟩
  f24 := ⟨Tryz.f127.name, by decide, Tryz.func127.trans (congrArg some (by kernel_rfl))⟩
  f25 := ⟨Tryz.f128.name, by decide, Tryz.func128.trans (congrArg some (by kernel_rfl))⟩
  f26 := ⟨Tryz.f129.name, by decide, Tryz.func129.trans (congrArg some (by kernel_rfl))⟩
  f27 := ⟨Tryz.f130.name, by decide, Tryz.func130.trans (congrArg some (by kernel_rfl))⟩
  f28 := Tryz.func131.trans (congrArg some (by kernel_rfl))
  f29 := Tryz.func132.trans (congrArg some (by kernel_rfl))
  f46 := ⟨Tryz.f155.name, by decide, Tryz.func155.trans (congrArg some (by kernel_rfl))⟩
  f47 := Tryz.func156.trans (congrArg some (by kernel_rfl))
  f48 := Tryz.func157.trans (congrArg some (by kernel_rfl))
  f49 := ⟨Tryz.f158.name, by decide, Tryz.func158.trans (congrArg some (by kernel_rfl))⟩
  f50 := ⟨Tryz.f159.name, by decide, Tryz.func159.trans (congrArg some (by kernel_rfl))⟩
  f57 := ⟨Tryz.f172.name, by decide, Tryz.func172.trans (congrArg some (by kernel_rfl))⟩
  t0 := Tryz.underlying0
  a0 := Tryz.isAgg0
  z0 := Tryz.sizeOf0
  v0 := Tryz.zeroValue0
  t3 := Tryz.underlying3
  a3 := Tryz.isAgg3
  z3 := Tryz.sizeOf3
  v3 := Tryz.zeroValue3
  t4 := Tryz.underlying4
  a4 := Tryz.isAgg4
  z4 := Tryz.sizeOf4
  v4 := Tryz.zeroValue4
  t5 := Tryz.underlying5
  a5 := Tryz.isAgg5
  z5 := Tryz.sizeOf5
  v5 := Tryz.zeroValue5
  t9 := Tryz.underlying9
  a9 := Tryz.isAgg9
  z9 := Tryz.sizeOf9
  v9 := Tryz.zeroValue9
  t22 := Tryz.underlying25
  a22 := Tryz.isAgg25
  z22 := Tryz.sizeOf25
  v22 := Tryz.zeroValue25
  t25 := Tryz.underlying68
  a25 := Tryz.isAgg68
  z25 := Tryz.sizeOf68
  v25 := Tryz.zeroValue68
  t39 := Tryz.underlying120
  a39 := Tryz.isAgg120
  z39 := Tryz.sizeOf120
  v39 := Tryz.zeroValue120
  t45 := Tryz.underlying145
  a45 := Tryz.isAgg145
  z45 := Tryz.sizeOf145
  v45 := Tryz.zeroValue145
  t46 := Tryz.underlying146
  a46 := Tryz.isAgg146
  z46 := Tryz.sizeOf146
  v46 := Tryz.zeroValue146
  t50 := Tryz.underlying112
  a50 := Tryz.isAgg112
  z50 := Tryz.sizeOf112
  v50 := Tryz.zeroValue112
  t53 := Tryz.underlying152
  a53 := Tryz.isAgg152
  z53 := Tryz.sizeOf152
  v53 := Tryz.zeroValue152
  t55 := Tryz.underlying154
  a55 := Tryz.isAgg154
  z55 := Tryz.sizeOf154
  v55 := Tryz.zeroValue154
  t66 := Tryz.underlying172
  a66 := Tryz.isAgg172
  z66 := Tryz.sizeOf172
  v66 := Tryz.zeroValue172
  t70 := Tryz.underlying138
  a70 := Tryz.isAgg138
  z70 := Tryz.sizeOf138
  v70 := Tryz.zeroValue138
  t76 := Tryz.underlying186
  a76 := Tryz.isAgg186
  z76 := Tryz.sizeOf186
  v76 := Tryz.zeroValue186
  t77 := Tryz.underlying187
  a77 := Tryz.isAgg187
  z77 := Tryz.sizeOf187
  v77 := Tryz.zeroValue187 }
end Go.Proofs
end
