/- SpliceRows: the law's walk for every k. -/
import Derived.Test.YtfnbchbndmbjaaaRows2
namespace Go.Proofs.Ytfnbchbndmbjaaa
open Go.RowKit
set_option linter.unusedVariables false

set_option maxRecDepth 100000 in
set_option maxHeartbeats 2000000 in
theorem rows_any (A : Option Addr) (n c : Nat) (l : List Int) (B : Option Addr) (m d : Nat) (ss : List Spi) (k : Int) (w : World) (ha : CameIn w A n c l) (hb : CameSpl w B m d ss) (hk : (Lit.int .i64 k).wf = true) :
    Calls Try.prog 8 #[.slice A n c, .slice B m d, .int .i64 k] w fun e w' => e = .returned (.bool true) ∧ Below w.heap.size w w' := by
  by_cases hin : (m ≤ 30 ∧ n ≤ 300) ∧ 0 ≤ k ∧ k ≤ m
  · obtain ⟨⟨h1, h2⟩, h3, h4⟩ := hin
    obtain ⟨k', rfl⟩ := Int.eq_ofNat_of_zero_le h3
    exact rows_main A n c l B m d ss k' w ha hb h2 h1 (by omega)
  · obtain ⟨hnc, hc63, ha⟩ := ha
    obtain ⟨hmd, hd63, hb⟩ := hb
    have hm63 : m ≤ 9223372036854775807 := by simp only [maxLen] at hd63; omega
    have hn63 : n ≤ 9223372036854775807 := by omega
    have hk' : -9223372036854775808 ≤ k ∧ k ≤ 9223372036854775807 := by
      simp only [Lit.wf, Bool.and_eq_true, decide_eq_true_eq] at hk
      have h1 : IntKind.i64.min = -9223372036854775808 := rfl
      have h2 : IntKind.i64.max = 9223372036854775807 := rfl
      rw [h1, h2] at hk
      exact hk
    clear ha hb hk hc63 hd63
    have hway : 30 < m ∨ (m ≤ 30 ∧ 300 < n) ∨ (m ≤ 30 ∧ n ≤ 300 ∧ k < 0) ∨ (m ≤ 30 ∧ n ≤ 300 ∧ 0 ≤ k ∧ (m : Int) < k) := by omega
    clear hin
    rcases hway with hx | ⟨hx, hy⟩ | ⟨hx, hy, hz⟩ | ⟨hx, hy, hz, hu⟩
    all_goals
      go_enter Try.func8, Try.ntmps8
      go_wp2_with fail
      refine (small_any _).mono ?_
      rintro e w1 ⟨rfl, hb1⟩
      go_wp2
      go_ret
      exact ⟨rfl, hb1⟩
end Go.Proofs.Ytfnbchbndmbjaaa
