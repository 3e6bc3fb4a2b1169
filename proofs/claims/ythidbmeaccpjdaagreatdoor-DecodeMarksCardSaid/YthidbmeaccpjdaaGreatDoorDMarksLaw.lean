/- DecodeMarks: for every input the law returns true, and the arguments read as before. -/
import Derived.Test.YthidbmeaccpjdaaGreatDoorDMarksLawB
namespace Go.Proofs.YthidbmeaccpjdaaGreatDoor.decodeMarks
open Go.Proofs.YthidbmeaccpjdaaGreatDoor
open Go.ChangeMaps
open Go Go.ChangeShapes Go.WideShapes Go.ChangeAt Go.RowKit Go.Deep
set_option linter.unusedVariables false

theorem looks_ : true = Tryz.pinned.checked.prog.looks [] := by kernel_rfl
theorem byText_ : OpenClaim.wfByText (OpenSpec.ofChange Rows.decodeMarksSpec) Rows.decodeMarksRow = true := by kernel_rfl
theorem main_ : Tryz.pinned.checked.prog.mainIs = some (Rows.decodeMarksCard.stood.harness.fst, Rows.decodeMarksCard.stood.harness.snd.toList) := by kernel_rfl
theorem goes_ : false = Rows.decodeMarksRow.goesBy Tryz.pinned.checked.prog := by kernel_rfl
set_option maxRecDepth 100000 in
theorem proved : Rows.DecodeMarksCardSaid :=
  Claim7.holds_tied_plain_at .later [] _ _ _ _ said (fun _ h => by cases h) byText_ (fun _ h => by cases h) decodeMarks_row_tie rfl ⟨rfl, rfl⟩ main_ rfl
    (fun f fn hf hfn => by
      obtain rfl : f = 7 := Option.some.inj ((show Tryz.prog.funcNamed "pouch/pouchlaw15.DecodeMarks" = some 7 by kernel_rfl).symm.trans hf) |>.symm
      obtain rfl : fn = Tryz.f7 := (Option.some.inj (Tryz.func7.symm.trans hfn)).symm
      exact ⟨looks_, fun j t ht => by
        rw [Tryz.params7] at ht
        have hm : t ∈ [9, 3] := by simpa using Array.mem_of_getElem? ht
        have hall : ([9, 3].all fun u => !Tryz.prog.wantsStandIn u) = true := by kernel_rfl
        exact (show Tryz.prog.wantsStandIn t = false by simpa using List.all_eq_true.1 hall t hm)⟩)
    goes_
#print axioms proved
end Go.Proofs.YthidbmeaccpjdaaGreatDoor.decodeMarks
