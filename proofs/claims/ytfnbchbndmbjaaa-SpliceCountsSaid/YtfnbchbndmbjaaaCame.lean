/- Arguments that came in, as lists. -/
import Derived.Test.YtfnbchbndmbjaaaSameAll
import Derived.ProofKit
import Derived.OpenShut
import Derived.ShutString
import Derived.ChangeOld
import Derived.SizedLaws
namespace Go.Proofs.Ytfnbchbndmbjaaa
open Go.ChangeShapes Go.WideShapes Go.ChangeAt Go.RowKit
set_option linter.unusedVariables false

/-- A slice of integers that came in, and the form's own reach. -/
def CameIn (w : World) (A : Option Addr) (n c : Nat) (l : List Int) : Prop := n ≤ c ∧ c * 8 ≤ 140737488351232 ∧ Ints w w.heap.size A n l
theorem CameIn.nil_ (w : World) : CameIn w none 0 0 [] := ⟨Nat.le_refl _, Nat.zero_le _, Ints.nil_⟩
theorem wf_i64_bounds {x : Int} (h : (Lit.int .i64 x).wf = true) : -9223372036854775808 ≤ x ∧ x ≤ 9223372036854775807 := by
  simpa [Lit.wf, IntKind.min, IntKind.max, IntKind.signed, IntKind.bits] using h
theorem CameIn.of {w : World} {x : Addr} {len cap : Nat} {zs : List Int} (hl : len ≤ cap) (hz : zs.length = cap) (hc : ∀ i, i < zs.length → w.cell? (x.add i) = some (.int .i64 (zs.getD i 0))) (hw : ∀ n ∈ zs, (Lit.int .i64 n).wf = true)
    (hr : cap * 8 ≤ 140737488351232) : CameIn w (some x) len cap (zs.take len) := by
  refine ⟨hl, hr, by simp; omega, fun y hy => wf_i64_bounds (hw y (List.mem_of_mem_take hy)), ?_⟩
  by_cases h0 : len = 0
  · exact .inl (by simp [h0, iv])
  · refine .inr ⟨x, rfl, ?_, fun j u hu => ?_⟩
    · have := World.block_lt_of_cell? w (x.add 0) (hc 0 (by omega))
      rwa [add_block] at this
    · have hj : j < len := by
        have := (List.getElem?_eq_some_iff.1 hu).1
        simp [iv] at this
        omega
      rw [hc j (by omega), ← hu]
      simp [iv, hj, show j < zs.length by omega]
theorem reach_ints {H : Type} {zs : List Int} {len cap : Nat} (hz : zs.length = cap) (h : ((lits (H := H) .i64 (zs.take len)).length + (lits (H := H) .i64 (zs.drop len)).length) * Try.prog.bytesOf 3 ≤ reachBytes) : cap * 8 ≤ 140737488351232 := by
  rw [show Try.prog.bytesOf 3 = 8 from by kernel_rfl] at h
  simp only [lits, List.length_map, List.length_take, List.length_drop, reachBytes] at h
  omega
theorem own_ : ownKnob Try.prog.godebug = none := by kernel_rfl
theorem laidOut_ : laidOutB Try.prog = true := by kernel_rfl
end Go.Proofs.Ytfnbchbndmbjaaa
