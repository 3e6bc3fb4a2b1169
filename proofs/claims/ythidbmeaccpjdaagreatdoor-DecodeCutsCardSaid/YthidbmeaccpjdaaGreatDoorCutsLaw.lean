/- DecodeCuts: for every input the law returns true, and the arguments read as before. -/
import Derived.Test.YthidbmeaccpjdaaGreatDoorCutsLawB
namespace Go.Proofs.YthidbmeaccpjdaaGreatDoor.decodeCuts
open Go.Proofs.YthidbmeaccpjdaaGreatDoor
open Go.ChangeMaps
open Go Go.ChangeShapes Go.WideShapes Go.ChangeAt Go.RowKit Go.Deep
set_option linter.unusedVariables false

theorem looks_ : true = Tryz.pinned.checked.prog.looks [] := by kernel_rfl
theorem byText_ : OpenClaim.wfByText (OpenSpec.ofChange Rows.decodeCutsSpec) Rows.decodeCutsRow = true := by kernel_rfl
theorem main_ : Tryz.pinned.checked.prog.mainIs = some (Rows.decodeCutsCard.stood.harness.fst, Rows.decodeCutsCard.stood.harness.snd.toList) := by kernel_rfl
theorem goes_ : false = Rows.decodeCutsRow.goesBy Tryz.pinned.checked.prog := by kernel_rfl
set_option maxRecDepth 100000 in
theorem proved : Rows.DecodeCutsCardSaid :=
  Claim7.holds_tied_plain_at .later [] _ _ _ _ said (fun _ h => by cases h) byText_ (fun _ h => by cases h) decodeCuts_row_tie rfl ⟨rfl, rfl⟩ main_ rfl
    (fun f fn hf hfn => by
      obtain rfl : f = 5 := Option.some.inj ((show Tryz.prog.funcNamed "pouch/pouchlaw15.DecodeCuts" = some 5 by kernel_rfl).symm.trans hf) |>.symm
      obtain rfl : fn = Tryz.f5 := (Option.some.inj (Tryz.func5.symm.trans hfn)).symm
      exact ⟨looks_, fun j t ht => by
        rw [Tryz.params5] at ht
        have hm : t ∈ [9, 9, 9] := by simpa using Array.mem_of_getElem? ht
        have hall : ([9, 9, 9].all fun u => !Tryz.prog.wantsStandIn u) = true := by kernel_rfl
        exact (show Tryz.prog.wantsStandIn t = false by simpa using List.all_eq_true.1 hall t hm)⟩)
    goes_
#print axioms proved
end Go.Proofs.YthidbmeaccpjdaaGreatDoor.decodeCuts
