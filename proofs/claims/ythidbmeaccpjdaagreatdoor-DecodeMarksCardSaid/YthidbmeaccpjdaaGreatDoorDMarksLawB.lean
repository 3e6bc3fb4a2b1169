/- DecodeMarks: the row. -/
import Derived.Test.YthidbmeaccpjdaaGreatDoorDMarksLawA
namespace Go.Proofs.YthidbmeaccpjdaaGreatDoor.decodeMarks
open Go.Proofs.YthidbmeaccpjdaaGreatDoor
open Go.ChangeMaps
open Go Go.ChangeShapes Go.WideShapes Go.ChangeAt Go.RowKit Go.Deep
set_option linter.unusedVariables false

theorem named_ : Tryz.pinned.checked.prog.funcNamed Rows.decodeMarksRow.func = some 7 := by kernel_rfl
theorem joined_ : joinedFacts Tryz.pinned.checked.prog 7 Tryz.f7 (OpenSpec.ofChange Rows.decodeMarksSpec).bare Rows.decodeMarksRow = true := by kernel_rfl
theorem inst_ : decide (Func.isInstance Tryz.pinned.checked.prog Tryz.f7 Rows.decodeMarksRow.origin Rows.decodeMarksRow.targs) = true := by kernel_rfl
theorem said : Rows.DecodeMarksSaid :=
  OpenClaim.holds_of_cond 7 Tryz.f7 rfl rfl rfl rfl rfl rfl rfl ⟨rfl, rfl, rfl, rfl, rfl⟩ rfl rfl rfl rfl rfl named_ Tryz.func7 joined_
    (of_decide_eq_true inst_) (by unfold Func.isWrapper; first | (rw [if_pos (by decide +kernel)]; kernel_rfl) | (rw [if_neg (by decide +kernel)]; exact ⟨rfl, rfl⟩))
    (fun os started H enc _ F => by rw [OpenClaim.pre_eq_preRow]; exact lifted os started H enc F)

end Go.Proofs.YthidbmeaccpjdaaGreatDoor.decodeMarks
