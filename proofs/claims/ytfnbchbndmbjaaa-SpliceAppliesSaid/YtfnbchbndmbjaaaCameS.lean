/- A slice of splices that came in, as a list. -/
import Derived.Test.YtfnbchbndmbjaaaCame
import Derived.Deep.Slices
namespace Go.Proofs.Ytfnbchbndmbjaaa
open Go.ChangeShapes Go.WideShapes Go.ChangeAt Go.RowKit Go.Deep
set_option linter.unusedVariables false

def CameSpl (w : World) (A : Option Addr) (n c : Nat) (l : List Spi) : Prop := n ≤ c ∧ c ≤ maxLen ∧ Spis w w.heap.size A n l

section
variable {H : Type} {enc : TypeId × Value → H} {w : World}
theorem cells3 : Try.prog.cellsOf 3 = 1 := by kernel_rfl
theorem cells22 : Try.prog.cellsOf 22 = 1 := by kernel_rfl
theorem cells30 : Try.prog.cellsOf 30 = 3 := by kernel_rfl

def SpiAt (w : World) (a : Addr) (i : Nat) (s : Spi) : Prop := (-9223372036854775808 ≤ s.at_ ∧ s.at_ ≤ 9223372036854775807) ∧ (-9223372036854775808 ≤ s.drop ∧ s.drop ≤ 9223372036854775807) ∧ ∃ X x c,
    w.cell? (a.add (i * 3)) = some (.int .i64 s.at_) ∧ w.cell? (a.add (i * 3 + 1)) = some (.int .i64 s.drop) ∧ w.cell? (a.add (i * 3 + 2)) = some (.slice X x c) ∧ x ≤ c ∧ c ≤ maxLen ∧ Ints w w.heap.size X x s.add

theorem spi_in {fuel i : Nat} {a : Addr} {cs : List Value} {x : DataW H × List MemPlace} (hc : w.cells? 0 (a.add (i * 3)) 3 = some cs) (h : DataW.trod enc Try.prog w 0 (fun _ => true) true fuel 30 cs = some x) : ∃ s, SpiAt w a i s := by
  obtain ⟨xs, n, _, _, _, hxl, hf⟩ := DataW.trod_struct Try.underlying30 h
  obtain ⟨_, hcl, hat⟩ := World.cells?_some hc
  match cs, hcl with
  | [c0, c1, c2], _ =>
    have hx0 : DataW.trod enc Try.prog w 0 (fun _ => true) true n 3 (([c0, c1, c2].drop 0).take (Try.prog.cellsOf 3)) = xs[0]? := hf 0 _ rfl
    have hx1 : DataW.trod enc Try.prog w 0 (fun _ => true) true n 3 (([c0, c1, c2].drop 1).take (Try.prog.cellsOf 3)) = xs[1]? := hf 1 _ rfl
    have hx2 : DataW.trod enc Try.prog w 0 (fun _ => true) true n 22 (([c0, c1, c2].drop 2).take (Try.prog.cellsOf 22)) = xs[2]? := hf 2 _ rfl
    rw [cells3] at hx0 hx1
    rw [cells22] at hx2
    replace hx0 : DataW.trod enc Try.prog w 0 (fun _ => true) true n 3 [c0] = xs[0]? := hx0
    replace hx1 : DataW.trod enc Try.prog w 0 (fun _ => true) true n 3 [c1] = xs[1]? := hx1
    replace hx2 : DataW.trod enc Try.prog w 0 (fun _ => true) true n 22 [c2] = xs[2]? := hx2
    have hl0 : xs[0]? = some (xs[0]'(by rw [hxl]; decide)) := List.getElem?_eq_getElem _
    have hl1 : xs[1]? = some (xs[1]'(by rw [hxl]; decide)) := List.getElem?_eq_getElem _
    have hl2 : xs[2]? = some (xs[2]'(by rw [hxl]; decide)) := List.getElem?_eq_getElem _
    rw [hl0] at hx0
    rw [hl1] at hx1
    rw [hl2] at hx2
    obtain ⟨m0, e0, _, w0⟩ := DataW.trod_int Try.underlying3 hx0
    obtain ⟨m1, e1, _, w1⟩ := DataW.trod_int Try.underlying3 hx1
    injection e0 with e0 _
    injection e1 with e1 _
    subst e0; subst e1
    have a0 := hat 0 (by omega)
    have a1 := hat 1 (by omega)
    have a2 := hat 2 (by omega)
    rw [add_add'] at a0 a1 a2
    rcases open_ints Try.underlying22 Try.underlying3 (by kernel_rfl) hx2 with ⟨hcs, _⟩ | ⟨y, l, c, zs, hcs, _, hl, hm, hz, _, hcell, hwz⟩
    · injection hcs with e2 _
      subst e2
      exact ⟨⟨m0, m1, []⟩, wf_i64_bounds w0, wf_i64_bounds w1, none, 0, 0, a0, a1, a2, Nat.le_refl _, Nat.zero_le _, Ints.nil_⟩
    · injection hcs with e2 _
      subst e2
      have hz' : zs.length = c := by simpa using hz
      refine ⟨⟨m0, m1, zs.take l⟩, wf_i64_bounds w0, wf_i64_bounds w1, some y, l, c, a0, a1, a2, hl, hm, by simp; omega, fun v hv => wf_i64_bounds (hwz v (List.mem_of_mem_take hv)), ?_⟩
      by_cases h0 : l = 0
      · exact .inl (by simp [h0, iv])
      · refine .inr ⟨y, rfl, ?_, fun j u hu => ?_⟩
        · have := World.block_lt_of_cell? w (y.add 0) (hcell 0 (by omega))
          rwa [add_block] at this
        · have hj : j < l := by
            have := (List.getElem?_eq_some_iff.1 hu).1
            simp [iv] at this
            omega
          rw [hcell j (by omega), ← hu]
          simp [iv, hj, show j < zs.length by omega]

theorem spis_in {fuel : Nat} {cs : List Value} {x : DataW H × List MemPlace} (h : DataW.trod enc Try.prog w 0 (fun _ => true) true fuel 27 cs = some x) : cs = [.slice none 0 0] ∨ ∃ a len cap ss, cs = [.slice (some a) len cap] ∧ CameSpl w (some a) len cap ss := by
  rcases open_slice Try.underlying27 h with ⟨h0, _⟩ | ⟨a, len, cap, m, n, D, Pl, hcs, _, hl, hm, hmm, _, hi⟩
  · exact .inl h0
  · right
    have hmc : m = cap := by simpa using hmm
    subst hmc
    have he : ∀ i, ∃ s, i < len → SpiAt w a i s := fun i => by
      by_cases hil : i < len
      · obtain ⟨cs', hc, ht⟩ := hi i (by omega)
        rw [cells30] at hc
        obtain ⟨s, hs⟩ := spi_in hc ht
        exact ⟨s, fun _ => hs⟩
      · exact ⟨⟨0, 0, []⟩, fun h => absurd h hil⟩
    refine ⟨a, len, m, (List.range len).map fun i => Classical.choose (he i), hcs, hl, hm, by simp, fun k hk => ?_⟩
    obtain ⟨h1, h2, X, x, c, h3, h4, h5, h6, h7, h8⟩ := Classical.choose_spec (he k) hk
    refine ⟨a, _, X, x, c, rfl, ?_, by simp [hk], h1, h2, h3, h4, h5, h6, h7, h8⟩
    have := World.block_lt_of_cell? w _ h3
    rwa [add_block] at this
end
end Go.Proofs.Ytfnbchbndmbjaaa
