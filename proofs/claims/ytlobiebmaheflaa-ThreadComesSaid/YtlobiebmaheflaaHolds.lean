/- Contracts of the law's holds (a number among numbers) and has (a list among lists). -/
import Derived.Test.YtlobiebmaheflaaTells
namespace Go.Proofs.Ytlobiebmaheflaa
open Go.RowKit
set_option linter.unusedVariables false

theorem mem_gi {l : List Int} {x : Int} : x ∈ l ↔ ∃ k, k < l.length ∧ gi l k = x := by
  constructor
  · intro h
    obtain ⟨k, hk, e⟩ := List.getElem_of_mem h
    exact ⟨k, hk, by rw [gi_get hk]; exact e⟩
  · rintro ⟨k, hk, e⟩
    rw [gi_get hk] at e
    rw [← e]; exact List.getElem_mem hk
set_option maxRecDepth 100000 in
theorem holds_any (A : Option Addr) (n c : Nat) (l : List Int) (x : Int) (w : World) (h : Ints w w.heap.size A n l) (hn : n ≤ 1000000) :
    Calls Try.prog 23 #[.slice A n c, .int .i64 x] w fun e w' => e = .returned (.bool (decide (x ∈ l))) ∧ w = w' := by
  have H := Lib.hid h
  clear h
  go_enter Try.func23, Try.ntmps23
  go_wp2
  go_loop [5] (fun i => ∃ k : Nat, k ≤ n ∧ i = .int .i64 k ∧ Hid (∀ t, t < k → gi l t ≠ x)) (fun i => n - (intOf i).toNat)
  case atStart => exact ⟨0, Nat.zero_le _, rfl, fun t ht => absurd ht (by omega)⟩
  case round =>
    obtain ⟨k, hk, rfl, HT⟩ := hrel
    by_cases hlt : k < n
    · obtain ⟨ad, rfl, _, hc⟩ := H.out.at_ hlt
      have hk2 : (k : Int) < n := by omega
      by_cases he : gi l k = x
      · have HE := Lib.hid he
        have hd : (gi l k == x) = true := by simpa using he
        clear he
        go_wp2
        go_ret
        exact ⟨ret_bool (by symm; exact decide_eq_true (mem_gi.2 ⟨k, by rw [H.out.len]; exact hlt, HE.out⟩)), rfl⟩
      · have HE := Lib.hid he
        have hd : (gi l k == x) = false := by simpa using he
        clear he
        go_wp2
        go_round
        case rel =>
          refine ⟨k + 1, by omega, by go_num, fun t ht => ?_⟩
          by_cases e : t = k
          · subst e; exact HE.out
          · exact HT.out t (by omega)
        case measure => simp [intOf] <;> omega
    · obtain rfl : k = n := by omega
      go_wp2
      go_ret
      refine ⟨ret_bool ?_, rfl⟩
      symm
      refine decide_eq_false fun hm => ?_
      obtain ⟨t, ht, e⟩ := mem_gi.1 hm
      exact HT.out t (by rw [← H.out.len]; exact ht) e

/-- One list of a slice of lists. -/
theorem Lists.one {w : World} {ad : Addr} {n : Nat} {ll : List (List Int)} (h : Lists w (some ad) n ll) {k : Nat} (hk : k < ll.length) : Lists w (some (ad.add k)) 1 [ll[k]] := by
  refine ⟨rfl, fun t ht => ?_⟩
  have : t = 0 := by simpa using ht
  subst this
  obtain ⟨ad', X, x, c, e, h1, h2, h3, h4⟩ := h.2 k hk
  injection e with e
  subst e
  exact ⟨_, X, x, c, rfl, by rw [add_block]; exact h1, by simpa [Addr.add] using h2, h3, h4⟩
set_option maxRecDepth 100000 in
set_option maxHeartbeats 1000000 in
theorem has_row (A R : Option Addr) (n c rn rc : Nat) (ll : List (List Int)) (l : List Int) (w : World) (h : Lists w A n ll) (hr : Ints w w.heap.size R rn l) (hn : n ≤ 1000000) (hc : n ≤ c) (hcm : c ≤ maxLen) (hrn : rn ≤ 1000000) :
    Calls Try.prog 24 #[.slice A n c, .slice R rn rc] w fun e w' => e = .returned (.bool (decide (l ∈ ll))) ∧ Below w.heap.size w w' := by
  have H := Lib.hid h
  have HR := Lib.hid hr
  have HN := Lib.hid h.1
  clear h hr
  unfold maxLen at hcm
  go_enter Try.func24, Try.ntmps24
  go_wp2
  go_loopw [5] (fun i wr => ∃ k : Nat, k ≤ n ∧ i = .int .i64 k ∧ Hid (∀ t (ht : t < ll.length), t < k → ll[t] ≠ l) ∧ Hid (Below w.heap.size w wr)) (fun i _ => n - (intOf i).toNat)
  case atStart => exact ⟨0, Nat.zero_le _, rfl, fun t ht h => absurd h (by omega), Below.refl _ _⟩
  case round =>
    obtain ⟨k, hk, rfl, HT, HB⟩ := hrel
    obtain ⟨wo, hwo⟩ : ∃ x, x = wr := ⟨wr, rfl⟩
    subst hwo
    have hsz := HB.out.size
    by_cases hlt : k < n
    · have hkl : k < ll.length := by rw [← HN.out]; exact hlt
      have hk2 : (k : Int) < n := by omega
      have hk3 : (k : Int) + 1 ≤ c := by omega
      have hk4 : ((k : Int) + 1).toNat = k + 1 := by omega
      have hk5 : k < c := by omega
      have HK4 := Lib.hid hk4
      clear hk4
      obtain ⟨ad, X, x, cx, rfl, hadl, -, -, -⟩ := H.out.2 k hkl
      have hl1 : Lists (wo.alloc (.cells #[.slice R rn rc] 40)) (some (ad.add k)) 1 [ll[k]] := ((H.out.below HB.out).one hkl).below ((Below.refl _ _).alloc (Nat.le_refl _) _)
      have hl2 : Lists (wo.alloc (.cells #[.slice R rn rc] 40)) (some ⟨wo.heap.size, 0, none⟩) 1 [l] := lists_one (MapKept.heap_alloc wo _).1 (((HR.out.below HB.out).more HB.out.size).below ((Below.refl _ _).alloc (Nat.le_refl _) _) |>.more (by simp)) hrn
      have HL1 := Lib.hid hl1
      have HL2 := Lib.hid hl2
      clear hl1 hl2 hadl
      go_wp2_with fail
      refine (same_any _ _ 1 1 _ _ [ll[k]] [l] _ HL1.out HL2.out (by omega)).mono ?_
      rintro e w2 ⟨rfl, nd, hw2⟩
      have hb2 : Below w.heap.size w w2 := (HB.out.alloc HB.out.size _).trans (by subst hw2; exact ⟨rfl, rfl, rfl, Nat.le_refl _, fun _ _ => rfl⟩)
      have HB2 := Lib.hid hb2
      clear hw2 hb2
      by_cases he : ll[k] = l
      · have HE := Lib.hid he
        have hd : decide ([ll[k]] = [l]) = true := by simpa using he
        rw [hd]
        clear he hd
        go_wp2
        go_ret
        refine ⟨ret_bool ?_, HB2.out⟩
        symm
        exact decide_eq_true (by rw [← HE.out]; exact List.getElem_mem hkl)
      · have HE := Lib.hid he
        have hd : decide ([ll[k]] = [l]) = false := by simpa using he
        rw [hd]
        clear he hd
        go_wp2
        go_roundw
        case rel =>
          refine ⟨k + 1, by omega, by go_num, fun t ht htk => ?_, HB2.out⟩
          by_cases e : t = k
          · subst e; exact HE.out
          · exact HT.out t ht (by omega)
        case measure => simp [intOf] <;> omega
    · obtain rfl : k = n := by omega
      go_wp2
      go_ret
      refine ⟨ret_bool ?_, HB.out⟩
      symm
      refine decide_eq_false fun hm => ?_
      obtain ⟨t, ht, e⟩ := List.getElem_of_mem hm
      exact HT.out t ht (by rw [HN.out]; exact ht) e
end Go.Proofs.Ytlobiebmaheflaa
