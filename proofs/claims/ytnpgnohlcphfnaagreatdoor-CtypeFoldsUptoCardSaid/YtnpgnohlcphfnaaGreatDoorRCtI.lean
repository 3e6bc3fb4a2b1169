/- Reference 12: the contract of Same. -/
import Derived.Test.YtnpgnohlcphfnaaGreatDoorM15
namespace Go.Proofs.YtnpgnohlcphfnaaGreatDoor
open Go.RowKit
set_option linter.unusedVariables false

set_option maxRecDepth 100000 in
set_option maxHeartbeats 1000000 in
theorem rsame_any (k1 s1 k2 s2 : List UInt8) (ps qs : List (List UInt8 × List UInt8)) (A A' : Option Addr) (n n' c c' : Nat) (w : World) (hP : Pars w w.heap.size A n ps) (hQ : Pars w w.heap.size A' n' qs) (hn : n ≤ 1000000000) (hn' : n' ≤ 1000000000) :
    Calls Tryz.prog 16 #[.agg #[.string (ba k1), .string (ba s1), .slice A n c], .agg #[.string (ba k2), .string (ba s2), .slice A' n' c']] w (EqPost w (decide (k1 = k2) && (decide (s1 = s2) && decide (ps = qs)))) := by
  have HB := Lib.hid (show Below w.heap.size w ((w.alloc (.cells #[.string (ba k1), .string (ba s1), .slice A n c] 26)).alloc (.cells #[.string (ba k2), .string (ba s2), .slice A' n' c'] 26)) from ((Below.refl _ _).alloc (Nat.le_refl _) _).alloc (by simp) _)
  have HC := Lib.hid (rparams_any ps qs A A' n n' c c' _ ((hP.below HB.out).more HB.out.size) ((hQ.below HB.out).more HB.out.size) hn hn')
  unfold EqPost at HC
  clear hP hQ
  by_cases e1 : k1 = k2
  · subst e1
    by_cases e2 : s1 = s2
    · subst e2
      have HF := Lib.hid (show (decide (k1 = k1) && (decide (s1 = s1) && decide (ps = qs))) = decide (ps = qs) by simp)
      go_enter Tryz.func16, Tryz.ntmps16
      go_wp2_with fail
      refine HC.out.mono ?_
      rintro e w2 ⟨rfl, hb⟩
      have HB2 := Lib.hid (HB.out.trans (hb.mono HB.out.size))
      clear hb
      go_wp2
      go_ret
      exact eq_fin HF.out HB2.out
    · have HF := Lib.hid (show (decide (k1 = k1) && (decide (s1 = s2) && decide (ps = qs))) = false by simp [e2])
      have g2 : ((ba s1).toList == (ba s2).toList) = false := by rw [ba_toList, ba_toList]; simpa using e2
      have g3 : ¬ (ba s1).toList = (ba s2).toList := by rw [ba_toList, ba_toList]; exact e2
      clear e2
      go_enter Tryz.func16, Tryz.ntmps16
      go_wp2
      go_ret
      exact eq_fin HF.out HB.out
  · have HF := Lib.hid (show (decide (k1 = k2) && (decide (s1 = s2) && decide (ps = qs))) = false by simp [e1])
    have g2 : ((ba k1).toList == (ba k2).toList) = false := by rw [ba_toList, ba_toList]; simpa using e1
    have g3 : ¬ (ba k1).toList = (ba k2).toList := by rw [ba_toList, ba_toList]; exact e1
    clear e1
    go_enter Tryz.func16, Tryz.ntmps16
    go_wp2
    go_ret
    exact eq_fin HF.out HB.out
end Go.Proofs.YtnpgnohlcphfnaaGreatDoor
