/- Layer 34: a segment that came in. -/
import Derived.Test.YtfinpehbpcckaaaGreatDoorM19
import Derived.Test.YtfinpehbpcckaaaGreatDoorM09
import Derived.ChangeMaps5
import Derived.Deep.Slices
namespace Go.Proofs.YtfinpehbpcckaaaGreatDoor
open Go.ChangeMaps
open Go Go.ChangeShapes Go.WideShapes Go.ChangeAt Go.RowKit Go.Deep
set_option linter.unusedVariables false

theorem cells_trm : Tryz.prog.cellsOf 47 = 3 := by kernel_rfl
theorem cells_sl : Tryz.prog.cellsOf 26 = 1 := by kernel_rfl
theorem cells_slT : Tryz.prog.cellsOf 25 = 1 := by kernel_rfl
theorem cells_segm : Tryz.prog.cellsOf 28 = 2 := by kernel_rfl
section
variable {H : Type} {enc : TypeId × Value → H} {w : World}
def TrmAt (w : World) (a : Addr) (i : Nat) (t : Trm) : Prop := (w.cell? (a.add (i * 3)) = some (.int .i64 t.field) ∧ w.cell? ⟨(a.add (i * 3)).block, (a.add (i * 3)).off + 1, none⟩ = some (.string (ba t.word)) ∧ w.cell? ⟨(a.add (i * 3)).block, (a.add (i * 3)).off + 2, none⟩ = some (.string (ba t.list))) ∧ (-9223372036854775808 ≤ t.field ∧ t.field ≤ 9223372036854775807)
set_option maxRecDepth 100000 in
theorem trm_in {fuel i : Nat} {a : Addr} {cs : List Value} {x : DataW H × List MemPlace} (hc : w.cells? 0 (a.add (i * 3)) 3 = some cs) (h : DataW.trod enc Tryz.prog w 0 (fun _ => true) true fuel 47 cs = some x) : ∃ e, TrmAt w a i e := by
  obtain ⟨xs, n, _, _, _, hxl, hf⟩ := DataW.trod_struct Tryz.underlying47 h
  obtain ⟨_, hcl, hat⟩ := World.cells?_some hc
  match cs, hcl with
  | [c0, c1, c2], _ =>
    have hx0 : DataW.trod enc Tryz.prog w 0 (fun _ => true) true n 3 (([c0, c1, c2].drop 0).take (Tryz.prog.cellsOf 3)) = xs[0]? := hf 0 _ rfl
    have hx1 : DataW.trod enc Tryz.prog w 0 (fun _ => true) true n 9 (([c0, c1, c2].drop 1).take (Tryz.prog.cellsOf 9)) = xs[1]? := hf 1 _ rfl
    have hx2 : DataW.trod enc Tryz.prog w 0 (fun _ => true) true n 9 (([c0, c1, c2].drop 2).take (Tryz.prog.cellsOf 9)) = xs[2]? := hf 2 _ rfl
    rw [cells_i64] at hx0
    rw [cells_str] at hx1 hx2
    replace hx0 : DataW.trod enc Tryz.prog w 0 (fun _ => true) true n 3 [c0] = xs[0]? := hx0
    replace hx1 : DataW.trod enc Tryz.prog w 0 (fun _ => true) true n 9 [c1] = xs[1]? := hx1
    replace hx2 : DataW.trod enc Tryz.prog w 0 (fun _ => true) true n 9 [c2] = xs[2]? := hx2
    have hl0 : xs[0]? = some (xs[0]'(by rw [hxl]; decide)) := List.getElem?_eq_getElem _
    have hl1 : xs[1]? = some (xs[1]'(by rw [hxl]; decide)) := List.getElem?_eq_getElem _
    have hl2 : xs[2]? = some (xs[2]'(by rw [hxl]; decide)) := List.getElem?_eq_getElem _
    rw [hl0] at hx0
    rw [hl1] at hx1
    rw [hl2] at hx2
    obtain ⟨m0, e0, _, w0⟩ := DataW.trod_int Tryz.underlying3 hx0
    obtain ⟨s1, e1, _, w1⟩ := DataW.trod_string Tryz.underlying9 hx1
    obtain ⟨s2, e2, _, w2⟩ := DataW.trod_string Tryz.underlying9 hx2
    injection e0 with e0 _
    injection e1 with e1 _
    injection e2 with e2 _
    subst e0; subst e1; subst e2
    have a0 := hat 0 (by omega)
    have a1 := hat 1 (by omega)
    have a2 := hat 2 (by omega)
    exact ⟨⟨m0, s1.data.toList, s2.data.toList⟩, ⟨a0, a1, a2⟩, wf64_bounds w0⟩
theorem trms_in {fuel : Nat} {cs : List Value} {x : DataW H × List MemPlace} (h : DataW.trod enc Tryz.prog w 0 (fun _ => true) true fuel 25 cs = some x) : ∃ A n c ts, cs = [.slice A n c] ∧ n ≤ c ∧ c ≤ maxLen ∧ Trms w w.heap.size A n ts := by
  rcases open_slice Tryz.underlying25 h with ⟨h0, _⟩ | ⟨a, len, cap, m, n, D, Pl, hcs, _, hl, hm, hmm, _, hi⟩
  · exact ⟨none, 0, 0, [], h0, Nat.le_refl _, by simp, Trms.nil_⟩
  · have hmc : m = cap := by simpa using hmm
    subst hmc
    have he : ∀ i, ∃ e, i < len → TrmAt w a i e := fun i => by
      by_cases hil : i < len
      · obtain ⟨cs', hc, ht⟩ := hi i (by omega)
        rw [cells_trm] at hc
        obtain ⟨s, hs⟩ := trm_in hc ht
        exact ⟨s, fun _ => hs⟩
      · exact ⟨⟨0, [], []⟩, fun h => absurd h hil⟩
    refine ⟨some a, len, m, (List.range len).map fun i => Classical.choose (he i), hcs, hl, hm, by simp, fun k hk => ?_⟩
    have hk2 : k < len := by simpa using hk
    obtain ⟨⟨h1, h2, h3⟩, h4⟩ := Classical.choose_spec (he k) hk2
    have e : ((List.range len).map fun i => Classical.choose (he i))[k] = Classical.choose (he k) := by simp
    rw [e]
    exact ⟨a, rfl, World.block_lt_of_cell? w _ h1, h1, h2, h3, h4⟩
theorem docs_in {fuel : Nat} {cs : List Value} {x : DataW H × List MemPlace} (h : DataW.trod enc Tryz.prog w 0 (fun _ => true) true fuel 26 cs = some x) : ∃ A n c l, cs = [.slice A n c] ∧ n ≤ c ∧ c ≤ maxLen ∧ Ints w w.heap.size A n l := by
  rcases open_ints Tryz.underlying26 Tryz.underlying3 cells_i64 h with ⟨h0, _⟩ | ⟨a, len, cap, zs, hcs, _, hl, hm, hz, _, hcell, hwz⟩
  · exact ⟨none, 0, 0, [], h0, Nat.le_refl _, by simp, Ints.nil_⟩
  · have hz' : zs.length = cap := by simpa using hz
    refine ⟨some a, len, cap, zs.take len, hcs, hl, hm, by rw [List.length_take]; omega, fun y hy => wf64_bounds (hwz y (List.mem_of_mem_take hy)), ?_⟩
    by_cases h0 : len = 0
    · left; subst h0; simp [iv]
    · refine .inr ⟨a, rfl, ?_, fun j u hu => ?_⟩
      · have := World.block_lt_of_cell? w _ (hcell 0 (by omega))
        rw [add_block] at this
        exact this
      · unfold iv at hu
        rw [List.getElem?_map] at hu
        have hj : j < (zs.take len).length := by
          rcases Nat.lt_or_ge j (zs.take len).length with h1 | h1
          · exact h1
          · rw [List.getElem?_eq_none h1] at hu; cases hu
        rw [List.getElem?_eq_getElem hj] at hu
        have hu' : Value.int .i64 (zs.take len)[j] = u := Option.some.inj hu
        rw [List.length_take] at hj
        have h2 := hcell j (by omega)
        rw [h2, ← hu', List.getElem_take]
        simp [show j < zs.length by omega]
set_option maxRecDepth 100000 in
theorem seg_in {fuel base : Nat} {v : Value} {x : DataW H × List MemPlace} (hv : Value.okWide Tryz.prog w .any base 28 v) (h : DataW.trod enc Tryz.prog w 0 (fun _ => true) true fuel 28 v.cells.toList = some x) :
    ∃ A n c D m d s, v = .agg #[.slice A n c, .slice D m d] ∧ SegIn w w.heap.size A n c D m d s := by
  obtain ⟨cs, rfl, hsz⟩ := okWide_struct Tryz.underlying28 hv
  rw [cells_segm] at hsz
  obtain ⟨l⟩ := cs
  match l, hsz with
  | [c0, c1], _ =>
  obtain ⟨y0, y1, m, hx, _, hy0, hy1⟩ := trod_struct2 Tryz.underlying28 h
  obtain ⟨A, n, c, ts, e0, h1, h2, h3⟩ := trms_in hy0
  obtain ⟨D, k, d, docs, e1, h4, h5, h6⟩ := docs_in hy1
  simp [Value.cells, cells_slT, cells_sl] at e0 e1
  subst e0; subst e1
  exact ⟨A, n, c, D, k, d, ⟨ts, docs⟩, rfl, h3, h1, h2, h6, h4, h5⟩
end
end Go.Proofs.YtfinpehbpcckaaaGreatDoor
