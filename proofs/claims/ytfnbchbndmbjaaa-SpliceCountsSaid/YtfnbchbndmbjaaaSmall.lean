/- Contracts of the small helpers. -/
import Derived.Test.YtfnbchbndmbjaaaBase
namespace Go.Proofs.Ytfnbchbndmbjaaa
open Go.RowKit
set_option linter.unusedVariables false

theorem ret_bool {a b : Bool} (h : a = b) : Ending.returned (.bool a) = .returned (.bool b) := by rw [h]

theorem same_no (A B : Option Addr) (n m c d : Nat) (w : World) (hne : ((n : Int) != (m : Int)) = true) :
    Calls Try.prog 11 #[.slice A n c, .slice B m d] w fun e w' => e = .returned (.bool false) ∧ w = w' := by
  go_enter Try.func11, Try.ntmps11
  go_wp2
  go_ret
  exact ⟨rfl, rfl⟩

theorem take_succ_eq {xs ys : List Int} {k : Nat} (h : xs.take k = ys.take k) (hx : k < xs.length) (hy : k < ys.length) (he : gi xs k = gi ys k) : xs.take (k + 1) = ys.take (k + 1) := by
  rw [List.take_succ_eq_append_getElem hx, List.take_succ_eq_append_getElem hy, h]
  rw [gi_get hx, gi_get hy] at he
  rw [he]

set_option maxHeartbeats 400000 in
theorem same_eq (A B : Option Addr) (n c d : Nat) (xs ys : List Int) (w : World) (ha : Ints w w.heap.size A n xs) (hb : Ints w w.heap.size B n ys) (hn : n ≤ maxLen) :
    Calls Try.prog 11 #[.slice A n c, .slice B n d] w fun e w' => e = .returned (.bool (decide (xs = ys))) ∧ ∃ k, w' = w.drewN k := by
  unfold maxLen at hn
  go_enter Try.func11, Try.ntmps11
  go_wp2
  go_loopw [5] (fun i wr => ∃ k : Nat, k ≤ n ∧ i = .int .i64 k ∧ xs.take k = ys.take k ∧ ∃ d, wr = w.drewN d) (fun i _ => n - (intOf i).toNat)
  case atStart => exact ⟨0, Nat.zero_le _, rfl, rfl, 0, rfl⟩
  case round =>
    obtain ⟨k, hk, rfl, ht, dd, rfl⟩ := hrel
    by_cases hlt : k < n
    · obtain ⟨ad, rfl, _, hca⟩ := ha.at_ hlt
      obtain ⟨bd, rfl, _, hcb⟩ := hb.at_ hlt
      have hlx := ha.len
      have hly := hb.len
      have HT := Lib.hid (And.intro ht (And.intro hlx hly)); clear ht hlx hly
      by_cases he : gi xs k = gi ys k
      · have HE := Lib.hid he
        have hne : (gi xs k != gi ys k) = false := by simpa using he
        clear he
        go_wp2
        go_quiet (fail)
        go_wp2
        go_roundw
        case rel => exact ⟨k + 1, by omega, by go_num, take_succ_eq HT.out.1 (HT.out.2.1 ▸ hlt) (HT.out.2.2 ▸ hlt) HE.out, _, rfl⟩
        case measure => simp [intOf]; omega
      · have HE := Lib.hid he
        have hne : (gi xs k != gi ys k) = true := by simpa using he
        clear he
        go_wp2
        go_quiet (fail)
        go_wp2
        go_ret
        exact ⟨ret_bool (by simp; intro e; subst e; exact HE.out rfl), dd + nq, World.drewN_drewN w dd nq⟩
    · have hlx := ha.len
      have hly := hb.len
      have hxy : xs = ys := by
        rw [List.take_of_length_le (by omega), List.take_of_length_le (by omega)] at ht
        exact ht
      have HE := Lib.hid hxy
      clear ht hlx hly hxy
      go_wp2
      go_ret
      exact ⟨ret_bool (by simp [HE.out]), _, rfl⟩

theorem same_any (A B : Option Addr) (n m c d : Nat) (xs ys : List Int) (w : World) (ha : Ints w w.heap.size A n xs) (hb : Ints w w.heap.size B m ys) (hn : n ≤ maxLen) :
    Calls Try.prog 11 #[.slice A n c, .slice B m d] w fun e w' => e = .returned (.bool (decide (xs = ys))) ∧ ∃ k, w' = w.drewN k := by
  by_cases h : n = m
  · subst h
    exact same_eq A B n c d xs ys w ha hb hn
  · refine (same_no A B n m c d w (by simp; omega)).mono ?_
    rintro e w' ⟨rfl, rfl⟩
    refine ⟨ret_bool ?_, 0, rfl⟩
    have h1 := ha.len
    have h2 := hb.len
    symm
    simp
    rintro rfl
    omega
end Go.Proofs.Ytfnbchbndmbjaaa
