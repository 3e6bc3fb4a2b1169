/- DecodeBack: for every input the law returns true, and the arguments read as before. -/
import Derived.Test.YthidbmeaccpjdaaGreatDoorDBackLawB
namespace Go.Proofs.YthidbmeaccpjdaaGreatDoor.decodeBack
open Go.Proofs.YthidbmeaccpjdaaGreatDoor
open Go.ChangeMaps
open Go Go.ChangeShapes Go.WideShapes Go.ChangeAt Go.RowKit Go.Deep
set_option linter.unusedVariables false

theorem looks_ : true = Tryz.pinned.checked.prog.looks [] := by kernel_rfl
theorem byText_ : OpenClaim.wfByText (OpenSpec.ofChange Rows.decodeBackSpec) Rows.decodeBackRow = true := by kernel_rfl
theorem main_ : Tryz.pinned.checked.prog.mainIs = some (Rows.decodeBackCard.stood.harness.fst, Rows.decodeBackCard.stood.harness.snd.toList) := by kernel_rfl
theorem goes_ : false = Rows.decodeBackRow.goesBy Tryz.pinned.checked.prog := by kernel_rfl
set_option maxRecDepth 100000 in
theorem proved : Rows.DecodeBackCardSaid :=
  Claim7.holds_tied_plain_at .later [] _ _ _ _ said (fun _ h => by cases h) byText_ (fun _ h => by cases h) decodeBack_row_tie rfl ⟨rfl, rfl⟩ main_ rfl
    (fun f fn hf hfn => by
      obtain rfl : f = 6 := Option.some.inj ((show Tryz.prog.funcNamed "pouch/pouchlaw15.DecodeBack" = some 6 by kernel_rfl).symm.trans hf) |>.symm
      obtain rfl : fn = Tryz.f6 := (Option.some.inj (Tryz.func6.symm.trans hfn)).symm
      exact ⟨looks_, fun j t ht => by
        rw [Tryz.params6] at ht
        have hm : t ∈ [9, 3] := by simpa using Array.mem_of_getElem? ht
        have hall : ([9, 3].all fun u => !Tryz.prog.wantsStandIn u) = true := by kernel_rfl
        exact (show Tryz.prog.wantsStandIn t = false by simpa using List.all_eq_true.1 hall t hm)⟩)
    goes_
#print axioms proved
end Go.Proofs.YthidbmeaccpjdaaGreatDoor.decodeBack
