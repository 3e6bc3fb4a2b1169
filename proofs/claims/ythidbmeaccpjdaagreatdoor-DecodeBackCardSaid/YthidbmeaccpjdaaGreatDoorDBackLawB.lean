/- DecodeBack: the row. -/
import Derived.Test.YthidbmeaccpjdaaGreatDoorDBackLawA
namespace Go.Proofs.YthidbmeaccpjdaaGreatDoor.decodeBack
open Go.Proofs.YthidbmeaccpjdaaGreatDoor
open Go.ChangeMaps
open Go Go.ChangeShapes Go.WideShapes Go.ChangeAt Go.RowKit Go.Deep
set_option linter.unusedVariables false

theorem named_ : Tryz.pinned.checked.prog.funcNamed Rows.decodeBackRow.func = some 6 := by kernel_rfl
theorem joined_ : joinedFacts Tryz.pinned.checked.prog 6 Tryz.f6 (OpenSpec.ofChange Rows.decodeBackSpec).bare Rows.decodeBackRow = true := by kernel_rfl
theorem inst_ : decide (Func.isInstance Tryz.pinned.checked.prog Tryz.f6 Rows.decodeBackRow.origin Rows.decodeBackRow.targs) = true := by kernel_rfl
theorem said : Rows.DecodeBackSaid :=
  OpenClaim.holds_of_cond 6 Tryz.f6 rfl rfl rfl rfl rfl rfl rfl ⟨rfl, rfl, rfl, rfl, rfl⟩ rfl rfl rfl rfl rfl named_ Tryz.func6 joined_
    (of_decide_eq_true inst_) (by unfold Func.isWrapper; first | (rw [if_pos (by decide +kernel)]; kernel_rfl) | (rw [if_neg (by decide +kernel)]; exact ⟨rfl, rfl⟩))
    (fun os started H enc _ F => by rw [OpenClaim.pre_eq_preRow]; exact lifted os started H enc F)

end Go.Proofs.YthidbmeaccpjdaaGreatDoor.decodeBack
