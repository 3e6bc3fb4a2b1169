/- Reference 12: the contract of Meant. -/
import Derived.Test.YtnpgnohlcphfnaaGreatDoorRDec
import Derived.Test.YtnpgnohlcphfnaaGreatDoorM07
namespace Go.Proofs.YtnpgnohlcphfnaaGreatDoor
open Go.RowKit
set_option linter.unusedVariables false

set_option maxRecDepth 100000 in
set_option maxHeartbeats 4000000 in
theorem rmeant_any (name l : List UInt8) (w : World) (hn : name.length ≤ 1000000000) (hl : l.length ≤ 1000000000) :
    Calls Tryz.prog 114 #[.string (ba name), .string (ba l)] w (StrB w (meantP name l)) := by
  have HR := Lib.hid (rrepair_any l w hl)
  have HD := Lib.hid (rdecode_any name l w hn hl)
  unfold DecPost at HD
  obtain ⟨bb, hbb⟩ : ∃ b, decide (setOf (smallP name) ≠ 0) = b := ⟨_, rfl⟩
  rw [hbb] at HD
  clear hbb
  cases name with
  | nil =>
    have g1 : (ba ([] : List UInt8)).toList.isEmpty = true := by rw [ba_toList]; rfl
    have HM := Lib.hid (show meantP [] l = repairP l from rfl)
    go_enter Tryz.func114, Tryz.ntmps114
    go_wp2_with fail
    refine HR.out.mono ?_
    rintro e w1 ⟨rfl, hb⟩
    have HB := Lib.hid hb
    clear hb
    go_wp2
    go_ret
    exact str_fin (by rw [HM.out]) HB.out
  | cons c r =>
    have g1 : (ba (c :: r)).toList.isEmpty = false := by rw [ba_toList]; rfl
    have HM := Lib.hid (show meantP (c :: r) l = decodeSet (c :: r) l by unfold meantP; rw [if_neg (by simp)])
    go_enter Tryz.func114, Tryz.ntmps114
    go_wp2_with fail
    refine HD.out.mono ?_
    rintro e w1 ⟨rfl, hb⟩
    have HB := Lib.hid hb
    clear hb
    go_wp2
    go_ret
    exact str_fin (by rw [HM.out]) HB.out
end Go.Proofs.YtnpgnohlcphfnaaGreatDoor
