/- The laws' arguments that came in: operations as a list. -/
import Derived.Test.YtlobiebmaheflaaDeed
import Derived.ProofKit
import Derived.OpenShut
import Derived.ShutString
import Derived.ChangeOld
import Derived.SizedLaws
import Derived.Deep.Slices
import Derived.Deep.Strs
namespace Go.Proofs.Ytlobiebmaheflaa
open Go.ChangeShapes Go.WideShapes Go.ChangeAt Go.RowKit Go.Deep
set_option linter.unusedVariables false

theorem own_ : ownKnob Try.prog.godebug = none := by kernel_rfl
theorem wf_i64_bounds {x : Int} (h : (Lit.int .i64 x).wf = true) : -9223372036854775808 ≤ x ∧ x ≤ 9223372036854775807 := by
  simpa [Lit.wf, IntKind.min, IntKind.max, IntKind.signed, IntKind.bits] using h
theorem cells3 : Try.prog.cellsOf 3 = 1 := by kernel_rfl
theorem cells32 : Try.prog.cellsOf 32 = 1 := by kernel_rfl
theorem cells34 : Try.prog.cellsOf 34 = 5 := by kernel_rfl

theorem strs_nil' (w : World) : Strs w w.heap.size none 0 [] := ⟨rfl, (fun s h => by cases h), .inl rfl⟩
section
variable {H : Type} {enc : TypeId × Value → H} {w : World}
/-- A slice of strings that came in. -/
theorem refs_in {fuel : Nat} {v : Value} {x : DataW H × List MemPlace} (h : DataW.trod enc Try.prog w 0 (fun _ => true) true fuel 32 [v] = some x) : ∃ RA rn rc l, v = .slice RA rn rc ∧ RefsIn w w.heap.size RA rn rc l := by
  rcases open_strs Try.underlying32 Try.underlying9 cells9 h with ⟨hcs, _⟩ | ⟨a, len, cap, m, Sx, hcs, _, hl, hm, hmm, _, hcell⟩
  · injection hcs with e _
    exact ⟨none, 0, 0, [], e, strs_nil' w, Nat.le_refl _, Nat.zero_le _, fun _ => rfl⟩
  · injection hcs with e _
    have hmc : m = cap := by simpa using hmm
    subst hmc
    refine ⟨some a, len, m, (List.range len).map Sx, e, ⟨by simp, fun s hs => ?_, ?_⟩, hl, hm, fun e => by cases e⟩
    · obtain ⟨i, hi, rfl⟩ := List.mem_map.1 hs
      exact (hcell i (by have := List.mem_range.1 hi; omega)).2
    · by_cases h0 : len = 0
      · exact .inl (by simp [h0])
      · refine .inr ⟨a, rfl, ?_, fun j u hu => ?_⟩
        · have := World.block_lt_of_cell? w (a.add 0) (hcell 0 (by omega)).1
          rwa [add_block] at this
        · have hj : j < len := by
            have := (List.getElem?_eq_some_iff.1 hu).1
            simpa using this
          rw [(hcell j (by omega)).1, ← hu]
          simp [hj]

def DeedCame (w : World) (a : Addr) (i : Nat) (d : Deed) : Prop := ∃ RA rn rc, d.Fit ∧ w.cell? (a.add (i * 5)) = some (.int .i64 d.do_) ∧ w.cell? (a.add (i * 5 + 1)) = some (.int .i64 d.id) ∧ w.cell? (a.add (i * 5 + 2)) = some (.string d.own) ∧
    w.cell? (a.add (i * 5 + 3)) = some (.slice RA rn rc) ∧ w.cell? (a.add (i * 5 + 4)) = some (.string d.base) ∧ RefsIn w w.heap.size RA rn rc d.refs
set_option maxRecDepth 100000 in
/-- The cells of one operation. -/
theorem deed_cells {fuel : Nat} {cs : List Value} {x : DataW H × List MemPlace} (hl : cs.length = 5) (h : DataW.trod enc Try.prog w 0 (fun _ => true) true fuel 34 cs = some x) : ∃ (d : Deed) (RA : Option Addr) (rn rc : Nat), cs = [.int .i64 d.do_, .int .i64 d.id, .string d.own, .slice RA rn rc, .string d.base] ∧ d.Fit ∧ RefsIn w w.heap.size RA rn rc d.refs := by
  obtain ⟨xs, n, _, _, _, hxl, hf⟩ := DataW.trod_struct Try.underlying34 h
  match cs, hl with
  | [c0, c1, c2, c3, c4], _ =>
    have hx0 : DataW.trod enc Try.prog w 0 (fun _ => true) true n 3 (([c0, c1, c2, c3, c4].drop 0).take (Try.prog.cellsOf 3)) = xs[0]? := hf 0 _ rfl
    have hx1 : DataW.trod enc Try.prog w 0 (fun _ => true) true n 3 (([c0, c1, c2, c3, c4].drop 1).take (Try.prog.cellsOf 3)) = xs[1]? := hf 1 _ rfl
    have hx2 : DataW.trod enc Try.prog w 0 (fun _ => true) true n 9 (([c0, c1, c2, c3, c4].drop 2).take (Try.prog.cellsOf 9)) = xs[2]? := hf 2 _ rfl
    have hx3 : DataW.trod enc Try.prog w 0 (fun _ => true) true n 32 (([c0, c1, c2, c3, c4].drop 3).take (Try.prog.cellsOf 32)) = xs[3]? := hf 3 _ rfl
    have hx4 : DataW.trod enc Try.prog w 0 (fun _ => true) true n 9 (([c0, c1, c2, c3, c4].drop 4).take (Try.prog.cellsOf 9)) = xs[4]? := hf 4 _ rfl
    rw [cells3] at hx0
    replace hx0 : DataW.trod enc Try.prog w 0 (fun _ => true) true n 3 [c0] = xs[0]? := hx0
    have hl0 : xs[0]? = some (xs[0]'(by rw [hxl]; decide)) := List.getElem?_eq_getElem _
    rw [hl0] at hx0
    rw [cells3] at hx1
    replace hx1 : DataW.trod enc Try.prog w 0 (fun _ => true) true n 3 [c1] = xs[1]? := hx1
    have hl1 : xs[1]? = some (xs[1]'(by rw [hxl]; decide)) := List.getElem?_eq_getElem _
    rw [hl1] at hx1
    rw [cells9] at hx2
    replace hx2 : DataW.trod enc Try.prog w 0 (fun _ => true) true n 9 [c2] = xs[2]? := hx2
    have hl2 : xs[2]? = some (xs[2]'(by rw [hxl]; decide)) := List.getElem?_eq_getElem _
    rw [hl2] at hx2
    rw [cells32] at hx3
    replace hx3 : DataW.trod enc Try.prog w 0 (fun _ => true) true n 32 [c3] = xs[3]? := hx3
    have hl3 : xs[3]? = some (xs[3]'(by rw [hxl]; decide)) := List.getElem?_eq_getElem _
    rw [hl3] at hx3
    rw [cells9] at hx4
    replace hx4 : DataW.trod enc Try.prog w 0 (fun _ => true) true n 9 [c4] = xs[4]? := hx4
    have hl4 : xs[4]? = some (xs[4]'(by rw [hxl]; decide)) := List.getElem?_eq_getElem _
    rw [hl4] at hx4
    obtain ⟨m0, e0, _, w0⟩ := DataW.trod_int Try.underlying3 hx0
    injection e0 with e0 _
    subst e0
    obtain ⟨m1, e1, _, w1⟩ := DataW.trod_int Try.underlying3 hx1
    injection e1 with e1 _
    subst e1
    obtain ⟨m2, e2, _, w2⟩ := DataW.trod_string Try.underlying9 hx2
    injection e2 with e2 _
    subst e2
    obtain ⟨RA, rn, rc, l, rfl, hr⟩ := refs_in hx3
    obtain ⟨m4, e4, _, w4⟩ := DataW.trod_string Try.underlying9 hx4
    injection e4 with e4 _
    subst e4
    exact ⟨⟨m0, m1, m2, l, m4⟩, RA, rn, rc, rfl, ⟨wf_i64_bounds w0, wf_i64_bounds w1, w2, w4⟩, hr⟩
theorem deed_in {fuel i : Nat} {a : Addr} {cs : List Value} {x : DataW H × List MemPlace} (hc : w.cells? 0 (a.add (i * 5)) 5 = some cs) (h : DataW.trod enc Try.prog w 0 (fun _ => true) true fuel 34 cs = some x) : ∃ d, DeedCame w a i d := by
  obtain ⟨_, hcl, hat⟩ := World.cells?_some hc
  obtain ⟨d, RA, rn, rc, rfl, hf, hr⟩ := deed_cells hcl h
  have a0 := hat 0 (by omega)
  have a1 := hat 1 (by omega)
  have a2 := hat 2 (by omega)
  have a3 := hat 3 (by omega)
  have a4 := hat 4 (by omega)
  rw [add_add'] at a0 a1 a2 a3 a4
  exact ⟨d, RA, rn, rc, hf, a0, a1, a2, a3, a4, hr⟩

/-- The operations that came in. -/
theorem deeds_in {fuel : Nat} {v : Value} {x : DataW H × List MemPlace} (h : DataW.trod enc Try.prog w 0 (fun _ => true) true fuel 22 [v] = some x) : ∃ A n c l, v = .slice A n c ∧ n ≤ c ∧ c ≤ maxLen ∧ Deeds w w.heap.size A n l := by
  rcases open_slice Try.underlying22 h with ⟨h0, _⟩ | ⟨a, len, cap, m, n, D, Pl, hcs, _, hl, hm, hmm, _, hi⟩
  · injection h0 with e _
    exact ⟨none, 0, 0, [], e, Nat.le_refl _, Nat.zero_le _, rfl, fun k hk => by simp at hk⟩
  · injection hcs with e _
    have hmc : m = cap := by simpa using hmm
    subst hmc
    have he : ∀ i, ∃ d, i < len → DeedCame w a i d := fun i => by
      by_cases hil : i < len
      · obtain ⟨cs', hc, ht⟩ := hi i (by omega)
        rw [cells34] at hc
        obtain ⟨s, hs⟩ := deed_in hc ht
        exact ⟨s, fun _ => hs⟩
      · exact ⟨⟨0, 0, ⟨#[]⟩, [], ⟨#[]⟩⟩, fun h => absurd h hil⟩
    refine ⟨some a, len, m, (List.range len).map fun i => Classical.choose (he i), e, hl, hm, by simp, fun k hk => ?_⟩
    have hk' : k < len := by simpa using hk
    obtain ⟨RA, rn, rc, h1, h2, h3, h4, h5, h6, h7⟩ := Classical.choose_spec (he k) hk'
    have hlt : (a.add (k * 5)).block < w.heap.size := by
      have := World.block_lt_of_cell? w _ h2
      rwa [add_block] at this ⊢
    rw [← add_add'] at h3 h4 h5 h6
    simp only [List.getElem_map, List.getElem_range]
    refine ⟨a, RA, rn, rc, rfl, hlt, ?_, ?_, ?_, ?_, ?_, ?_, ?_⟩
    · exact h1
    · exact h2
    · exact h3
    · exact h4
    · exact h5
    · exact h6
    · exact h7
end
end Go.Proofs.Ytlobiebmaheflaa
