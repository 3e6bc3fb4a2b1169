/- DecodeCuts: the row. -/
import Derived.Test.YthidbmeaccpjdaaGreatDoorCutsLawA
namespace Go.Proofs.YthidbmeaccpjdaaGreatDoor.decodeCuts
open Go.Proofs.YthidbmeaccpjdaaGreatDoor
open Go.ChangeMaps
open Go Go.ChangeShapes Go.WideShapes Go.ChangeAt Go.RowKit Go.Deep
set_option linter.unusedVariables false

theorem named_ : Tryz.pinned.checked.prog.funcNamed Rows.decodeCutsRow.func = some 5 := by kernel_rfl
theorem joined_ : joinedFacts Tryz.pinned.checked.prog 5 Tryz.f5 (OpenSpec.ofChange Rows.decodeCutsSpec).bare Rows.decodeCutsRow = true := by kernel_rfl
theorem inst_ : decide (Func.isInstance Tryz.pinned.checked.prog Tryz.f5 Rows.decodeCutsRow.origin Rows.decodeCutsRow.targs) = true := by kernel_rfl
theorem said : Rows.DecodeCutsSaid :=
  OpenClaim.holds_of_cond 5 Tryz.f5 rfl rfl rfl rfl rfl rfl rfl ⟨rfl, rfl, rfl, rfl, rfl⟩ rfl rfl rfl rfl rfl named_ Tryz.func5 joined_
    (of_decide_eq_true inst_) (by unfold Func.isWrapper; first | (rw [if_pos (by decide +kernel)]; kernel_rfl) | (rw [if_neg (by decide +kernel)]; exact ⟨rfl, rfl⟩))
    (fun os started H enc _ F => by rw [OpenClaim.pre_eq_preRow]; exact lifted os started H enc F)

end Go.Proofs.YthidbmeaccpjdaaGreatDoor.decodeCuts
