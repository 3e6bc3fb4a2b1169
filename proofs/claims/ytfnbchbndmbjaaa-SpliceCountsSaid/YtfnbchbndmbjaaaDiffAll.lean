/- The program's Diff on all lists, Keep on all lists. -/
import Derived.Test.YtfnbchbndmbjaaaJoin
namespace Go.Proofs.Ytfnbchbndmbjaaa
open Go.RowKit
set_option linter.unusedVariables false

theorem diff_big_same (A B : Option Addr) (n m c d : Nat) (a b : List Int) (w : World) (ha : Ints w w.heap.size A n a) (hb : Ints w w.heap.size B m b) (hn : n ≤ maxLen) (hm : m ≤ maxLen) (h : 1024 < n ∨ 1024 < m) (hab : a = b) :
    Calls Try.prog 15 #[.slice A n c, .slice B m d] w fun e w' => e = .returned (.slice none 0 0) ∧ Below w.heap.size w w' := by
  have HC := Lib.hid (equal_any A B n m c d a b w ha hb hn)
  rw [show decide (a = b) = true by simp [hab]] at HC
  unfold maxLen at hn hm
  clear ha hb hab
  by_cases h1 : 1024 < n
  all_goals
    have h2 : 1024 < n ∨ 1024 < m := h
    first | (have h3 : 1024 < m := by omega) | skip
    clear h h2
    go_enter Try.func15, Try.ntmps15
    go_wp2_with fail
    refine HC.out.mono ?_
    rintro e w' ⟨rfl, k, rfl⟩
    go_wp2
    go_ret
    exact ⟨rfl, drewBelow (Below.refl _ _) _⟩

theorem diff_big_ne (A B : Option Addr) (n m c d : Nat) (a b : List Int) (w : World) (ha : Ints w w.heap.size A n a) (hb : Ints w w.heap.size B m b) (hn : n ≤ maxLen) (hm : m * 8 ≤ 140737488355328) (h : 1024 < n ∨ 1024 < m) (hab : a ≠ b) :
    Calls Try.prog 15 #[.slice A n c, .slice B m d] w fun e w' => ∃ v ps, e = .returned v ∧ OwnPs w' w.heap.size v ps ∧ ps.map (·.1) = [⟨0, n, b⟩] ∧ Below w.heap.size w w' := by
  have HC := Lib.hid (equal_any A B n m c d a b w ha hb hn)
  rw [show decide (a = b) = false by simp [hab]] at HC
  have HB := Lib.hid hb
  unfold maxLen at hn
  clear ha hb hab
  by_cases h1 : 1024 < n
  all_goals
    have h2 : 1024 < n ∨ 1024 < m := h
    first | (have h3 : 1024 < m := by omega) | skip
    clear h h2
    go_enter Try.func15, Try.ntmps15
    go_wp2_with fail
    refine HC.out.mono ?_
    rintro e w' ⟨rfl, k, rfl⟩
    go_wp2_with fail
    refine (clone_any B m d b _ (HB.out.drewN k) hm).mono ?_
    rintro e w1 ⟨v, rfl, hown, hbel⟩
    have HO := Lib.hid hown
    have HL := Lib.hid hbel
    obtain ⟨A1, c1, rfl, _, _, _⟩ := hown.ints
    clear hown hbel
    go_wp2
    go_ret
    have hsz : w.heap.size ≤ w1.heap.size := HL.out.size
    refine ⟨_, [(⟨0, n, b⟩, .slice A1 b.length c1)], rfl, ⟨?_, fun p hp => ?_, List.pairwise_singleton _ _⟩, rfl, ?_⟩
    · exact World.ownsRow_lit w1 _ 1 hsz (by unfold maxLen; omega) rfl
    · rw [List.mem_singleton] at hp; subst hp
      exact HO.out.alloc _
    · have hd : Below w.heap.size w (w.drewN k) := drewBelow (Below.refl _ _) _
      exact (hd.trans HL.out).alloc hsz _

/-- Diff, whatever the lists. -/
theorem diff_any (A B : Option Addr) (n m c d : Nat) (a b : List Int) (w : World) (ha : Ints w w.heap.size A n a) (hb : Ints w w.heap.size B m b) (hnc : n ≤ c) (hmd : m ≤ d) (hc63 : c * 8 ≤ 140737488355328) (hd63 : d * 8 ≤ 140737488355328) :
    Calls Try.prog 15 #[.slice A n c, .slice B m d] w fun e w' => ∃ v ps, e = .returned v ∧ OwnPs w' w.heap.size v ps ∧ ps.map (·.1) = diffS a b ∧ Below w.heap.size w w' := by
  have hmx : c ≤ maxLen ∧ d ≤ maxLen := by simp only [maxLen]; omega
  have hn := ha.len
  have hm := hb.len
  unfold diffS
  rw [hn, hm]
  by_cases h : 1024 < n ∨ 1024 < m
  · rw [if_pos h]
    by_cases hab : a = b
    · rw [if_pos hab]
      refine (diff_big_same A B n m c d a b w ha hb (by omega) (by omega) h hab).mono ?_
      rintro e w' ⟨rfl, hb⟩
      exact ⟨_, [], rfl, OwnPs.nil_ _ _, rfl, hb⟩
    · rw [if_neg hab]
      exact diff_big_ne A B n m c d a b w ha hb (by omega) (by omega) h hab
  · rw [if_neg h]
    exact diff_small A B n m c d a b w ha hb (by omega) (by omega) hnc hmd hmx.1 hmx.2

/-- Keep, whatever the lists. -/
theorem keepS_any (A B : Option Addr) (n m c d : Nat) (a b : List Int) (w : World) (ha : Ints w w.heap.size A n a) (hb : Ints w w.heap.size B m b) (hnc : n ≤ c) (hmd : m ≤ d) (hc63 : c ≤ maxLen) (hd63 : d ≤ maxLen) :
    Calls Try.prog 12 #[.slice A n c, .slice B m d] w fun e w' => ∃ v, e = .returned v ∧ OwnInts w' w.heap.size v (keepS a b) ∧ Below w.heap.size w w' := by
  have hn := ha.len
  have hm := hb.len
  unfold keepS
  rw [hn, hm]
  by_cases h : 1024 < n ∨ 1024 < m
  · rw [if_pos h]
    refine (keep_big A B n m c d w (by omega) (by omega) h).mono ?_
    rintro e w' ⟨rfl, rfl⟩
    exact ⟨_, rfl, OwnInts.nil_ _ _, Below.refl _ _⟩
  · rw [if_neg h]
    exact keep_any A B n m c d a b w ha hb (by omega) (by omega) hnc hmd hc63 hd63

/-- The reference's Keep, whatever the lists. -/
theorem rkeepS_any (A B : Option Addr) (n m c d : Nat) (a b : List Int) (w : World) (ha : Ints w w.heap.size A n a) (hb : Ints w w.heap.size B m b) (hn : n ≤ maxLen) (hm : m ≤ maxLen) :
    Calls Try.prog 13 #[.slice A n c, .slice B m d] w fun e w' => ∃ v, e = .returned v ∧ OwnInts w' w.heap.size v (keepS a b) ∧ Below w.heap.size w w' := by
  have h1 := ha.len
  have h2 := hb.len
  unfold keepS
  rw [h1, h2]
  by_cases h : 1024 < n ∨ 1024 < m
  · rw [if_pos h]
    refine (rkeep_big A B n m c d w hn hm h).mono ?_
    rintro e w' ⟨rfl, rfl⟩
    exact ⟨_, rfl, OwnInts.nil_ _ _, Below.refl _ _⟩
  · rw [if_neg h]
    exact rkeep_any A B n m c d a b w ha hb (by omega) (by omega)
end Go.Proofs.Ytfnbchbndmbjaaa
