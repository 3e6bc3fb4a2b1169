/- A row of integers that came in. -/
import Derived.Test.YtnpgnohlcphfnaaGreatDoorM17
namespace Go.Proofs.YtnpgnohlcphfnaaGreatDoor
open Go.ChangeMaps
open Go Go.ChangeShapes Go.WideShapes Go.ChangeAt Go.RowKit Go.Deep Go.Lib
set_option linter.unusedVariables false

theorem cells_i64s : Tryz.prog.cellsOf 3 = 1 := by kernel_rfl
theorem wf64_bounds {i : Int} (h : (Lit.int .i64 i).wf = true) : -9223372036854775808 ≤ i ∧ i ≤ 9223372036854775807 := by
  unfold Lit.wf at h
  have h1 : IntKind.i64.min = -9223372036854775808 := by decide
  have h2 : IntKind.i64.max = 9223372036854775807 := by decide
  simpa only [h1, h2, Bool.and_eq_true, decide_eq_true_eq] using h
section
variable {H : Type} {enc : TypeId × Value → H} {w : World}
theorem ints_in {fuel : Nat} {cs : List Value} {x : DataW H × List MemPlace} (h : DataW.trod enc Tryz.prog w 0 (fun _ => true) true fuel 41 cs = some x) : ∃ A n c l, cs = [.slice A n c] ∧ n ≤ c ∧ c ≤ maxLen ∧ Ints w w.heap.size A n l := by
  rcases open_ints Tryz.underlying41 Tryz.underlying3 cells_i64s h with ⟨h0, _⟩ | ⟨a, len, cap, zs, hcs, _, hl, hm, hz, _, hcell, hwz⟩
  · exact ⟨none, 0, 0, [], h0, Nat.le_refl _, by simp, Ints.nil_⟩
  · have hz' : zs.length = cap := by simpa using hz
    refine ⟨some a, len, cap, zs.take len, hcs, hl, hm, by rw [List.length_take]; omega, fun y hy => wf64_bounds (hwz y (List.mem_of_mem_take hy)), ?_⟩
    by_cases h0 : len = 0
    · left; subst h0; simp [iv]
    · refine .inr ⟨a, rfl, ?_, fun j u hu => ?_⟩
      · have := World.block_lt_of_cell? w _ (hcell 0 (by omega))
        rw [add_block] at this
        exact this
      · unfold iv at hu
        rw [List.getElem?_map] at hu
        have hj : j < (zs.take len).length := by
          rcases Nat.lt_or_ge j (zs.take len).length with h1 | h1
          · exact h1
          · rw [List.getElem?_eq_none h1] at hu; cases hu
        rw [List.getElem?_eq_getElem hj] at hu
        have hu' : Value.int .i64 (zs.take len)[j] = u := Option.some.inj hu
        rw [List.length_take] at hj
        have h2 := hcell j (by omega)
        rw [h2, ← hu', List.getElem_take]
        simp [show j < zs.length by omega]
end
end Go.Proofs.YtnpgnohlcphfnaaGreatDoor
