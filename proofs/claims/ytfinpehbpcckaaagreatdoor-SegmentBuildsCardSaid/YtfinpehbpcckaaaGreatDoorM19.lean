/- The package variables as the rows lay them: both tables in memory; the door's own heap meets the condition. Layer 34: the laws' helpers few, ahead, stands; entries that came in. Entries that came in, as a list; the tables out of the rows' condition. SegmentPrefixes, plain: the postings of a built segment, and unions of them. Layer 34: the reference's in, has, ahead. -/
import Derived.Test.YtfinpehbpcckaaaGreatDoorRows
import Derived.Test.YtfinpehbpcckaaaGreatDoorChecked
import Derived.ProofKit
import Derived.LaidMore
import Derived.OpenShut
import Derived.Deep.Slices
import Derived.Test.YtfinpehbpcckaaaGreatDoorM14
import Derived.Test.YtfinpehbpcckaaaGreatDoorM16
import Derived.Test.YtfinpehbpcckaaaGreatDoorM18
import Derived.Test.YtfinpehbpcckaaaGreatDoorM09
import Derived.Test.YtfinpehbpcckaaaGreatDoorM17
section
namespace Go.Proofs.YtfinpehbpcckaaaGreatDoor
open Go.ChangeShapes Go.WideShapes Go.ChangeAt Go.RowKit Go.Deep
set_option linter.unusedVariables false

theorem own_ : ownKnob Tryz.prog.godebug = none := by kernel_rfl
theorem gFold : Tryz.prog.globalNamed "pouch/fold.spans" = some 2 := by kernel_rfl
theorem gCut : Tryz.prog.globalNamed "pouch/cut.spans" = some 0 := by kernel_rfl
theorem tFold : (Tryz.prog.globals[(2 : Nat)]?).map (·.type) = some 180 := by kernel_rfl
theorem tCut : (Tryz.prog.globals[(0 : Nat)]?).map (·.type) = some 163 := by kernel_rfl
theorem cellsF : Tryz.prog.cellsOf 182 = 4 := by kernel_rfl
theorem cellsC : Tryz.prog.cellsOf 165 = 3 := by kernel_rfl
theorem cells_i32 : Tryz.prog.cellsOf 21 = 1 := by kernel_rfl
theorem cells_i64 : Tryz.prog.cellsOf 3 = 1 := by kernel_rfl
def laid2 : List (String × (∀ {H : Type}, DataW H)) := []
section
variable {H : Type} {enc : TypeId × Value → H} {w : World} {spare : Nat → Bool} {held : Bool}
set_option maxRecDepth 100000 in
theorem span_f {fuel : Nat} {cs : List Value} {p : List MemPlace} {a b c d : Int} (hcl : cs.length = 4) (h : DataW.trod enc Tryz.prog w 0 spare held fuel 182 cs = some (.agg [.lit (.int .i32 a), .lit (.int .i32 b), .lit (.int .i32 c), .lit (.int .i32 d)], p)) :
    cs = [.int .i32 a, .int .i32 b, .int .i32 c, .int .i32 d] := by
  obtain ⟨xs, n, _, hx, _, hxl, hf⟩ := DataW.trod_struct Tryz.underlying182 h
  match cs, hcl with
  | [c0, c1, c2, c3], _ =>
    have hx0 : DataW.trod enc Tryz.prog w 0 spare held n 21 (([c0, c1, c2, c3].drop 0).take (Tryz.prog.cellsOf 21)) = xs[0]? := hf 0 _ rfl
    have hx1 : DataW.trod enc Tryz.prog w 0 spare held n 21 (([c0, c1, c2, c3].drop 1).take (Tryz.prog.cellsOf 21)) = xs[1]? := hf 1 _ rfl
    have hx2 : DataW.trod enc Tryz.prog w 0 spare held n 21 (([c0, c1, c2, c3].drop 2).take (Tryz.prog.cellsOf 21)) = xs[2]? := hf 2 _ rfl
    have hx3 : DataW.trod enc Tryz.prog w 0 spare held n 21 (([c0, c1, c2, c3].drop 3).take (Tryz.prog.cellsOf 21)) = xs[3]? := hf 3 _ rfl
    rw [cells_i32] at hx0 hx1 hx2 hx3
    match xs, hxl, hx with
    | [x0, x1, x2, x3], _, hx =>
      simp only [List.map_cons, List.map_nil, Prod.mk.injEq, DataW.agg.injEq, List.cons.injEq, and_true] at hx
      obtain ⟨⟨e0, e1, e2, e3⟩, _⟩ := hx
      obtain ⟨m0, f0, g0, _⟩ := DataW.trod_int Tryz.underlying21 (show DataW.trod enc Tryz.prog w 0 spare held n 21 [c0] = some x0 from hx0)
      obtain ⟨m1, f1, g1, _⟩ := DataW.trod_int Tryz.underlying21 (show DataW.trod enc Tryz.prog w 0 spare held n 21 [c1] = some x1 from hx1)
      obtain ⟨m2, f2, g2, _⟩ := DataW.trod_int Tryz.underlying21 (show DataW.trod enc Tryz.prog w 0 spare held n 21 [c2] = some x2 from hx2)
      obtain ⟨m3, f3, g3, _⟩ := DataW.trod_int Tryz.underlying21 (show DataW.trod enc Tryz.prog w 0 spare held n 21 [c3] = some x3 from hx3)
      rw [g0] at e0; rw [g1] at e1; rw [g2] at e2; rw [g3] at e3
      injection e0 with e0; injection e0 with _ e0
      injection e1 with e1; injection e1 with _ e1
      injection e2 with e2; injection e2 with _ e2
      injection e3 with e3; injection e3 with _ e3
      injection f0 with f0; injection f1 with f1; injection f2 with f2; injection f3 with f3
      rw [f0, f1, f2, f3, e0, e1, e2, e3]
set_option maxRecDepth 100000 in
theorem span_c {fuel : Nat} {cs : List Value} {p : List MemPlace} {a b c : Int} (hcl : cs.length = 3) (h : DataW.trod enc Tryz.prog w 0 spare held fuel 165 cs = some (.agg [.lit (.int .i64 a), .lit (.int .i64 b), .lit (.int .i64 c)], p)) :
    cs = [.int .i64 a, .int .i64 b, .int .i64 c] := by
  obtain ⟨xs, n, _, hx, _, hxl, hf⟩ := DataW.trod_struct Tryz.underlying165 h
  match cs, hcl with
  | [c0, c1, c2], _ =>
    have hx0 : DataW.trod enc Tryz.prog w 0 spare held n 3 (([c0, c1, c2].drop 0).take (Tryz.prog.cellsOf 3)) = xs[0]? := hf 0 _ rfl
    have hx1 : DataW.trod enc Tryz.prog w 0 spare held n 3 (([c0, c1, c2].drop 1).take (Tryz.prog.cellsOf 3)) = xs[1]? := hf 1 _ rfl
    have hx2 : DataW.trod enc Tryz.prog w 0 spare held n 3 (([c0, c1, c2].drop 2).take (Tryz.prog.cellsOf 3)) = xs[2]? := hf 2 _ rfl
    rw [cells_i64] at hx0 hx1 hx2
    match xs, hxl, hx with
    | [x0, x1, x2], _, hx =>
      simp only [List.map_cons, List.map_nil, Prod.mk.injEq, DataW.agg.injEq, List.cons.injEq, and_true] at hx
      obtain ⟨⟨e0, e1, e2⟩, _⟩ := hx
      obtain ⟨m0, f0, g0, _⟩ := DataW.trod_int Tryz.underlying3 (show DataW.trod enc Tryz.prog w 0 spare held n 3 [c0] = some x0 from hx0)
      obtain ⟨m1, f1, g1, _⟩ := DataW.trod_int Tryz.underlying3 (show DataW.trod enc Tryz.prog w 0 spare held n 3 [c1] = some x1 from hx1)
      obtain ⟨m2, f2, g2, _⟩ := DataW.trod_int Tryz.underlying3 (show DataW.trod enc Tryz.prog w 0 spare held n 3 [c2] = some x2 from hx2)
      rw [g0] at e0; rw [g1] at e1; rw [g2] at e2
      injection e0 with e0; injection e0 with _ e0
      injection e1 with e1; injection e1 with _ e1
      injection e2 with e2; injection e2 with _ e2
      injection f0 with f0; injection f1 with f1; injection f2 with f2
      rw [f0, f1, f2, e0, e1, e2]
theorem datum_f : (Rows.laid_pouch_fold_spans : DataW H) = .slice ((List.range 17).map fun k => .agg [.lit (.int .i32 (fLo k)), .lit (.int .i32 (fHi k)), .lit (.int .i32 (fSt k)), .lit (.int .i32 (fMo k))]) [] := rfl
theorem datum_c : (Rows.laid_pouch_cut_spans : DataW H) = .slice ((List.range 19).map fun k => .agg [.lit (.int .i64 (kLo k)), .lit (.int .i64 (kHi k)), .lit (.int .i64 (kKd k))]) [] := rfl
theorem range_map_eq {α : Type} {m n : Nat} {f g : Nat → α} (h : (List.range m).map f = (List.range n).map g) : m = n ∧ ∀ k, k < n → f k = g k := by
  have h1 : m = n := by have := congrArg List.length h; simpa using this
  subst h1
  refine ⟨rfl, fun k hk => ?_⟩
  have h2 : ((List.range m).map f)[k]? = ((List.range m).map g)[k]? := by rw [h]
  simpa [hk] using h2
set_option maxRecDepth 100000 in
theorem fold_in {fuel : Nat} {cs : List Value} {p : List MemPlace} (h : DataW.trod enc Tryz.prog w 0 spare held fuel 180 cs = some (Rows.laid_pouch_fold_spans, p)) : ∃ ad c, cs = [.slice (some ad) 17 c] ∧ fCells w w.heap.size ad := by
  rw [datum_f] at h
  rcases open_slice Tryz.underlying180 h with ⟨_, h0⟩ | ⟨a, len, cap, m, n, D, Pl, hcs, _, hl, hm, hmm, hx, hi⟩
  · simp at h0
  · simp only [Prod.mk.injEq, DataW.slice.injEq] at hx
    obtain ⟨h1, h2⟩ := range_map_eq hx.1.1.symm
    subst h1
    have hlm : 17 ≤ m := by rw [hmm]; split <;> omega
    refine ⟨a, cap, hcs, ?_, fun k hk => ?_⟩
    · obtain ⟨cs', hc, _⟩ := hi 0 (by omega)
      rw [cellsF] at hc
      obtain ⟨_, hcl, hat⟩ := World.cells?_some hc
      have := hat 0 (by omega)
      rw [Nat.zero_mul] at this
      have hb := World.block_lt_of_cell? w ((a.add 0).add 0) (show _ = some (cs'[0]'(by omega)) by rw [this]; exact List.getElem?_eq_getElem _)
      rw [add_block, add_block] at hb
      exact hb
    · obtain ⟨cs', hc, ht⟩ := hi k (by omega)
      rw [cellsF] at hc
      rw [h2 k hk] at ht
      obtain ⟨_, hcl, hat⟩ := World.cells?_some hc
      have e := span_f hcl ht
      subst e
      have a0 := hat 0 (by omega)
      have a1 := hat 1 (by omega)
      have a2 := hat 2 (by omega)
      have a3 := hat 3 (by omega)
      exact ⟨a0, a1, a2, a3⟩
set_option maxRecDepth 100000 in
theorem cut_in {fuel : Nat} {cs : List Value} {p : List MemPlace} (h : DataW.trod enc Tryz.prog w 0 spare held fuel 163 cs = some (Rows.laid_pouch_cut_spans, p)) : ∃ ad c, cs = [.slice (some ad) 19 c] ∧ kCells w w.heap.size ad := by
  rw [datum_c] at h
  rcases open_slice Tryz.underlying163 h with ⟨_, h0⟩ | ⟨a, len, cap, m, n, D, Pl, hcs, _, hl, hm, hmm, hx, hi⟩
  · simp at h0
  · simp only [Prod.mk.injEq, DataW.slice.injEq] at hx
    obtain ⟨h1, h2⟩ := range_map_eq hx.1.1.symm
    subst h1
    have hlm : 19 ≤ m := by rw [hmm]; split <;> omega
    refine ⟨a, cap, hcs, ?_, fun k hk => ?_⟩
    · obtain ⟨cs', hc, _⟩ := hi 0 (by omega)
      rw [cellsC] at hc
      obtain ⟨_, hcl, hat⟩ := World.cells?_some hc
      have := hat 0 (by omega)
      rw [Nat.zero_mul] at this
      have hb := World.block_lt_of_cell? w ((a.add 0).add 0) (show _ = some (cs'[0]'(by omega)) by rw [this]; exact List.getElem?_eq_getElem _)
      rw [add_block, add_block] at hb
      exact hb
    · obtain ⟨cs', hc, ht⟩ := hi k (by omega)
      rw [cellsC] at hc
      rw [h2 k hk] at ht
      obtain ⟨_, hcl, hat⟩ := World.cells?_some hc
      have e := span_c hcl ht
      subst e
      have a0 := hat 0 (by omega)
      have a1 := hat 1 (by omega)
      have a2 := hat 2 (by omega)
      exact ⟨a0, a1, a2⟩
end
end Go.Proofs.YtfinpehbpcckaaaGreatDoor
end
section
namespace Go.Proofs.YtfinpehbpcckaaaGreatDoor
open Go.RowKit
set_option linter.unusedVariables false

def Few (es : List Ent) : Prop := es.length ≤ 24 ∧ ∀ e, e ∈ es → e.text.length ≤ 200
def FewPost (es : List Ent) (w : World) (e : Ending) (w' : World) : Prop := ∃ b, e = .returned (.bool b) ∧ (b = true → Few es) ∧ w' = w
theorem few_any (A : Option Addr) (n c : Nat) (es : List Ent) (w : World) (h : Ents w w.heap.size A n es) (hc : n ≤ maxLen) :
    Calls Tryz.prog 10 #[.slice A n c] w (FewPost es w) := by
  have H := Lib.hid h
  have HN := Lib.hid h.len
  simp only [maxLen] at hc
  clear h
  go_enter Tryz.func10, Tryz.ntmps10
  go_wp2
  go_loopw [3] (fun i wr => ∃ k : Nat, k ≤ n ∧ k ≤ 40 ∧ i = .int .i64 (k : Int) ∧ wr = w ∧ Hid (∀ j (hj : j < es.length), j < k → es[j].text.length ≤ 200)) (fun i _ => n - (intOf i).toNat)
  case atStart => exact ⟨0, Nat.zero_le _, by omega, rfl, rfl, fun j _ h => absurd h (by omega)⟩
  case round =>
    obtain ⟨k, hk, hk40, rfl, rfl, HA⟩ := hrel
    by_cases hlt : k < n
    · have d1 : decide ((k : Int) < n) = true := decide_eq_true (by omega)
      have hk2 : (k : Int) < n := by omega
      by_cases h40 : k < 40
      · have d2 : decide ((k : Int) < 40) = true := decide_eq_true (by omega)
        have hkl : k < es.length := by rw [HN.out]; exact hlt
        obtain ⟨ad, rfl, hb, c0, c1, c2, -⟩ := H.out.2 k hkl
        have HT := Lib.hid (show ∀ j (hj : j < es.length), j < k + 1 → es[k].text.length ≤ 200 → es[j].text.length ≤ 200 from fun j hj h1 h2 => by
          by_cases e : j = k
          · subst e; exact h2
          · exact HA.out j hj (by omega))
        obtain ⟨e, he⟩ : ∃ e, es[k] = e := ⟨_, rfl⟩
        rw [he] at c2 HT
        have hbs := ba_size e.text
        obtain ⟨tx, htx⟩ : ∃ tx, ba e.text = tx := ⟨_, rfl⟩
        rw [htx] at hbs c2
        by_cases hl : e.text.length ≤ 200
        · have hg : ¬ (200 : Int) < (tx.size : Int) := by omega
          clear he hbs htx c0 c1
          go_wp2
          go_roundw
          case rel => exact ⟨k + 1, by omega, by omega, by go_num, trivial, fun j hj h1 => HT.out j hj h1 hl⟩
          case measure => simp [intOf] <;> omega
        · have hg : (200 : Int) < (tx.size : Int) := by omega
          clear he hbs htx c0 c1
          go_wp2
          go_ret
          exact ⟨false, rfl, fun h => (by cases h), rfl⟩
      · have d2 : decide ((k : Int) < 40) = false := decide_eq_false (by omega)
        have hn : ¬ (n : Int) ≤ 24 := by omega
        have d3 : decide ((n : Int) ≤ 24) = false := decide_eq_false hn
        go_wp2
        go_ret
        exact ⟨false, rfl, fun h => (by cases h), rfl⟩
    · have d1 : decide ((k : Int) < n) = false := decide_eq_false (by omega)
      have HF := Lib.hid (show n ≤ 24 → Few es from fun h => ⟨by rw [HN.out]; exact h, fun e he => by
        obtain ⟨j, hj, rfl⟩ := List.getElem_of_mem he
        exact HA.out j hj (by rw [HN.out] at hj; omega)⟩)
      go_wp2
      go_ret
      exact ⟨decide ((n : Int) ≤ 24), rfl, fun h => HF.out (by have := of_decide_eq_true h; omega), rfl⟩
/-- An earlier entry has the document and field of entry k. -/
def AheadE (es : List Ent) (k : Nat) : Prop := ∃ j, j < k ∧ ∃ (h1 : j < es.length) (h2 : k < es.length), spotE es[j] = spotE es[k]
def AheadPost (es : List Ent) (k : Nat) (w : World) (e : Ending) (w' : World) : Prop := ∃ b, e = .returned (.bool b) ∧ (b = true ↔ AheadE es k) ∧ Below w.heap.size w w'
theorem ahead_any (A : Option Addr) (n c k : Nat) (es : List Ent) (w : World) (h : Ents w w.heap.size A n es) (hk : k < n) (hn : n ≤ 1000) :
    Calls Tryz.prog 27 #[.slice A n c, .int .i64 (k : Int)] w (AheadPost es k w) := by
  have H := Lib.hid h
  have HN := Lib.hid h.len
  have hkl : k < es.length := by rw [h.len]; exact hk
  have HKL := Lib.hid hkl
  obtain ⟨ad, rfl, hb, c0, c1, c2, hsf⟩ := h.2 k hkl
  have hk2 : (k : Int) < n := by omega
  obtain ⟨ek, hek⟩ : ∃ e, es[k]'hkl = e := ⟨_, rfl⟩
  have HEK := Lib.hid hek
  rw [hek] at c0 c1 hsf
  obtain ⟨d, f, tx⟩ := ek
  dsimp only at c0 c1
  clear h c2 hek hsf
  go_enter Tryz.func27, Tryz.ntmps27
  go_wp2
  go_loopw [5] (fun i wr => ∃ j : Nat, j ≤ k ∧ i = .int .i64 (j : Int) ∧ Hid (Below w.heap.size w wr) ∧ Hid (∀ q (hq : q < es.length), q < j → spotE es[q] ≠ (d, f))) (fun i _ => k - (intOf i).toNat)
  case atStart => exact ⟨0, Nat.zero_le _, rfl, Below.refl _ _, fun q _ h => absurd h (by omega)⟩
  case round =>
    obtain ⟨j, hj, rfl, HB, HA⟩ := hrel
    have k0 : wr.cell? (ad.add (k * 3)) = some (.int .i64 d) := (HB.out.cell hb).trans c0
    have k1 : wr.cell? ⟨(ad.add (k * 3)).block, (ad.add (k * 3)).off + 1, none⟩ = some (.int .i64 f) := (HB.out.cell (p := ⟨(ad.add (k * 3)).block, _, none⟩) hb).trans c1
    by_cases hlt : j < k
    · have hj2 : (j : Int) < k := by omega
      have hj3 : (j : Int) < n := by omega
      have hjl : j < es.length := by rw [HN.out]; omega
      obtain ⟨ad', e', hb', b0, b1, b2, -⟩ := H.out.2 j hjl
      injection e' with e'
      subst e'
      have j0 : wr.cell? (ad.add (j * 3)) = some (.int .i64 es[j].doc) := (HB.out.cell hb').trans b0
      have j1 : wr.cell? ⟨(ad.add (j * 3)).block, (ad.add (j * 3)).off + 1, none⟩ = some (.int .i64 es[j].field) := (HB.out.cell (p := ⟨(ad.add (j * 3)).block, _, none⟩) hb').trans b1
      have HT := Lib.hid (show spotE es[j] ≠ (d, f) → ∀ q (hq : q < es.length), q < j + 1 → spotE es[q] ≠ (d, f) from fun h0 q hq h1 => by
        by_cases e : q = j
        · subst e; exact h0
        · exact HA.out q hq (by omega))
      have HY := Lib.hid (show spotE es[j] = (d, f) → AheadE es k from fun h0 => ⟨j, hlt, hjl, HKL.out, by rw [HEK.out]; exact h0⟩)
      obtain ⟨e, he⟩ : ∃ e, es[j] = e := ⟨_, rfl⟩
      rw [he] at j0 j1 HT HY
      obtain ⟨d', f', tx'⟩ := e
      dsimp only at j0 j1
      clear he hjl b0 b1 b2
      by_cases e1 : d' = d
      · have q1 : (d' == d) = true := by simpa using e1
        by_cases e2 : f' = f
        · have q2 : (f' == f) = true := by simpa using e2
          have HY2 := Lib.hid (HY.out (Prod.ext e1 e2))
          clear e1 e2 HY HT
          go_wp2
          go_quiet (fail)
          go_wp2
          go_ret
          exact ⟨true, rfl, ⟨fun _ => HY2.out, fun _ => rfl⟩, Below.drewN HB.out _⟩
        · have q2 : (f' == f) = false := by simpa using e2
          have HT2 := Lib.hid (HT.out fun h => e2 (Prod.mk.inj h).2)
          clear e1 e2 HY HT
          go_wp2
          go_quiet (fail)
          go_wp2
          go_roundw
          case rel => exact ⟨j + 1, by omega, by go_num, Below.drewN HB.out _, HT2.out⟩
          case measure => simp [intOf] <;> omega
      · have q1 : (d' == d) = false := by simpa using e1
        have HT2 := Lib.hid (HT.out fun h => e1 (Prod.mk.inj h).1)
        clear e1 HY HT
        go_wp2
        go_quiet (fail)
        go_wp2
        go_roundw
        case rel => exact ⟨j + 1, by omega, by go_num, Below.drewN HB.out _, HT2.out⟩
        case measure => simp [intOf] <;> omega
    · have HNO := Lib.hid (show ¬ AheadE es k by
        rintro ⟨q, hq, h1, h2, h3⟩
        rw [HEK.out] at h3
        exact HA.out q h1 (by omega) h3)
      go_wp2
      go_ret
      exact ⟨false, rfl, ⟨fun h => (by cases h), fun h => absurd h HNO.out⟩, HB.out⟩
def StandsPost (l : List Post) (d k : Int) (w : World) (e : Ending) (w' : World) : Prop := ∃ b, e = .returned (.bool b) ∧ (b = true ↔ Has l d k) ∧ w' = w
theorem stands_any (A : Option Addr) (n c : Nat) (l : List Post) (d k : Int) (w : World) (h : Posts w w.heap.size A n l) (hn : n ≤ 1000000000) (hp : ∀ p, p ∈ l → p.places.length ≤ 1000000000) :
    Calls Tryz.prog 29 #[.slice A n c, .int .i64 d, .int .i64 k] w (StandsPost l d k w) := by
  have H := Lib.hid h
  have HN := Lib.hid h.len
  have HP := Lib.hid hp
  clear h hp
  go_enter Tryz.func29, Tryz.ntmps29
  go_wp2
  go_loopw [7] (fun i wr => ∃ j : Nat, j ≤ n ∧ i = .int .i64 (j : Int) ∧ wr = w ∧ Hid (¬ Has (l.take j) d k)) (fun i _ => n - (intOf i).toNat)
  case atStart => exact ⟨0, Nat.zero_le _, rfl, rfl, fun ⟨p, hp, _⟩ => by simp at hp⟩
  case round =>
    obtain ⟨j, hj, rfl, rfl, HA⟩ := hrel
    by_cases hlt : j < n
    · have hj2 : (j : Int) < n := by omega
      have hjl : j < l.length := by rw [HN.out]; exact hlt
      obtain ⟨ad, X, x, cx, rfl, hb, c0, c1, hx1, hx2, hdb, hxi⟩ := H.out.2 j hjl
      have hpl := HP.out _ (List.getElem_mem hjl)
      have HM := Lib.hid (List.getElem_mem hjl)
      have HT := Lib.hid (show ¬ (l[j].doc = d ∧ k ∈ l[j].places) → ¬ Has (l.take (j + 1)) d k from fun h0 => by
        rw [List.take_succ_eq_append_getElem hjl]
        rintro ⟨p, hp, h1, h2⟩
        rcases List.mem_append.1 hp with hp | hp
        · exact HA.out ⟨p, hp, h1, h2⟩
        · rw [List.mem_singleton] at hp; subst hp; exact h0 ⟨h1, h2⟩)
      obtain ⟨p, hpe⟩ : ∃ p, l[j] = p := ⟨_, rfl⟩
      rw [hpe] at c0 hxi hpl HM HT hdb
      have hxn := hxi.len
      obtain ⟨y, hy⟩ : ∃ y, p.doc = y := ⟨_, rfl⟩
      rw [hy] at c0
      clear hpe hjl
      by_cases e1 : y = d
      · have q1 : (y != d) = false := by simp [e1]
        have HXI := Lib.hid hxi
        have HHAS := Lib.hid (show k ∈ p.places → Has l d k from fun hh => ⟨p, HM.out, by rw [hy]; exact e1, hh⟩)
        have HT1 := Lib.hid (show k ∉ p.places → ¬ Has (l.take (j + 1)) d k from fun hh => HT.out fun h0 => hh h0.2)
        have HXN := Lib.hid hxn
        have hx9 : x ≤ 1000000000 := by omega
        clear hxi hy hxn hpl e1
        go_wp2
        go_loopw [8] (fun i wr' => ∃ q : Nat, q ≤ x ∧ i = .int .i64 (q : Int) ∧ wr' = wr ∧ Hid (k ∉ p.places.take q)) (fun i _ => x - (intOf i).toNat)
        case atStart => exact ⟨0, Nat.zero_le _, rfl, rfl, fun h => by rw [List.take_zero] at h; cases h⟩
        case round =>
          obtain ⟨q, hq, rfl, rfl, HQ⟩ := hrel
          by_cases hqx : q < x
          · have hq2 : (q : Int) < x := by omega
            have hql : q < p.places.length := by rw [HXN.out]; exact hqx
            obtain ⟨ad2, rfl, hb2, e0⟩ := HXI.out.at_ hqx
            rw [gi_get hql] at e0
            have HM2 := Lib.hid (List.getElem_mem hql)
            have HTK := Lib.hid (show p.places.take (q + 1) = p.places.take q ++ [p.places[q]] from List.take_succ_eq_append_getElem hql)
            obtain ⟨z, hz⟩ : ∃ z, p.places[q] = z := ⟨_, rfl⟩
            rw [hz] at e0 HM2 HTK
            clear hz hql
            by_cases ez : z = k
            · have q2 : (z == k) = true := by simpa using ez
              have HH := Lib.hid (HHAS.out (by rw [← ez]; exact HM2.out))
              clear ez
              go_wp2
              go_ret
              exact ⟨true, rfl, ⟨fun _ => HH.out, fun _ => rfl⟩, rfl⟩
            · have q2 : (z == k) = false := by simpa using ez
              have HN2 := Lib.hid (show k ∉ p.places.take (q + 1) by
                rw [HTK.out]
                intro h
                rcases List.mem_append.1 h with h | h
                · exact HQ.out h
                · rw [List.mem_singleton] at h; exact ez h.symm)
              clear ez
              go_wp2
              go_roundw
              case rel => exact ⟨q + 1, by omega, by go_num, trivial, HN2.out⟩
              case measure => simp [intOf] <;> omega
          · have HNEXT := Lib.hid (HT1.out (by
              have h1 := HQ.out
              rwa [List.take_of_length_le (by rw [HXN.out]; omega)] at h1))
            go_wp2
            go_roundw
            case rel => exact ⟨j + 1, by omega, by go_num, trivial, HNEXT.out⟩
            case measure => simp [intOf] <;> omega
      · have q1 : (y != d) = true := by simp [e1]
        have HT1 := Lib.hid (HT.out fun h0 => e1 (by rw [← hy]; exact h0.1))
        clear hxi hy hxn hpl e1
        go_wp2
        go_roundw
        case rel => exact ⟨j + 1, by omega, by go_num, trivial, HT1.out⟩
        case measure => simp [intOf] <;> omega
    · have HNO := Lib.hid (show ¬ Has l d k by
        have h1 := HA.out
        rwa [List.take_of_length_le (by rw [HN.out]; omega)] at h1)
      go_wp2
      go_ret
      exact ⟨false, rfl, ⟨fun h => (by cases h), fun h => absurd h HNO.out⟩, rfl⟩
end Go.Proofs.YtfinpehbpcckaaaGreatDoor
end
section
namespace Go.Proofs.YtfinpehbpcckaaaGreatDoor
open Go.ChangeShapes Go.WideShapes Go.ChangeAt Go.RowKit Go.Deep
set_option linter.unusedVariables false

theorem cells_ent : Tryz.prog.cellsOf 40 = 3 := by kernel_rfl
theorem cells_str : Tryz.prog.cellsOf 9 = 1 := by kernel_rfl
section
variable {H : Type} {enc : TypeId × Value → H} {w : World}
def EntAt (w : World) (a : Addr) (i : Nat) (e : Ent) : Prop := (w.cell? (a.add (i * 3)) = some (.int .i64 e.doc) ∧ w.cell? ⟨(a.add (i * 3)).block, (a.add (i * 3)).off + 1, none⟩ = some (.int .i64 e.field) ∧ w.cell? ⟨(a.add (i * 3)).block, (a.add (i * 3)).off + 2, none⟩ = some (.string (ba e.text))) ∧ SpotFits (e.doc, e.field)
set_option maxRecDepth 100000 in
theorem ent_in {fuel i : Nat} {a : Addr} {cs : List Value} {x : DataW H × List MemPlace} (hc : w.cells? 0 (a.add (i * 3)) 3 = some cs) (h : DataW.trod enc Tryz.prog w 0 (fun _ => true) true fuel 40 cs = some x) : ∃ e, EntAt w a i e := by
  obtain ⟨xs, n, _, _, _, hxl, hf⟩ := DataW.trod_struct Tryz.underlying40 h
  obtain ⟨_, hcl, hat⟩ := World.cells?_some hc
  match cs, hcl with
  | [c0, c1, c2], _ =>
    have hx0 : DataW.trod enc Tryz.prog w 0 (fun _ => true) true n 3 (([c0, c1, c2].drop 0).take (Tryz.prog.cellsOf 3)) = xs[0]? := hf 0 _ rfl
    have hx1 : DataW.trod enc Tryz.prog w 0 (fun _ => true) true n 3 (([c0, c1, c2].drop 1).take (Tryz.prog.cellsOf 3)) = xs[1]? := hf 1 _ rfl
    have hx2 : DataW.trod enc Tryz.prog w 0 (fun _ => true) true n 9 (([c0, c1, c2].drop 2).take (Tryz.prog.cellsOf 9)) = xs[2]? := hf 2 _ rfl
    rw [cells_i64] at hx0 hx1
    rw [cells_str] at hx2
    replace hx0 : DataW.trod enc Tryz.prog w 0 (fun _ => true) true n 3 [c0] = xs[0]? := hx0
    replace hx1 : DataW.trod enc Tryz.prog w 0 (fun _ => true) true n 3 [c1] = xs[1]? := hx1
    replace hx2 : DataW.trod enc Tryz.prog w 0 (fun _ => true) true n 9 [c2] = xs[2]? := hx2
    have hl0 : xs[0]? = some (xs[0]'(by rw [hxl]; decide)) := List.getElem?_eq_getElem _
    have hl1 : xs[1]? = some (xs[1]'(by rw [hxl]; decide)) := List.getElem?_eq_getElem _
    have hl2 : xs[2]? = some (xs[2]'(by rw [hxl]; decide)) := List.getElem?_eq_getElem _
    rw [hl0] at hx0
    rw [hl1] at hx1
    rw [hl2] at hx2
    obtain ⟨m0, e0, _, w0⟩ := DataW.trod_int Tryz.underlying3 hx0
    obtain ⟨m1, e1, _, w1⟩ := DataW.trod_int Tryz.underlying3 hx1
    obtain ⟨s, e2, _, w2⟩ := DataW.trod_string Tryz.underlying9 hx2
    injection e0 with e0 _
    injection e1 with e1 _
    injection e2 with e2 _
    subst e0; subst e1; subst e2
    have a0 := hat 0 (by omega)
    have a1 := hat 1 (by omega)
    have a2 := hat 2 (by omega)
    exact ⟨⟨m0, m1, s.data.toList⟩, ⟨a0, a1, a2⟩, w0, w1⟩
theorem ents_in {fuel : Nat} {cs : List Value} {x : DataW H × List MemPlace} (h : DataW.trod enc Tryz.prog w 0 (fun _ => true) true fuel 22 cs = some x) : cs = [.slice none 0 0] ∨ ∃ a len cap es, cs = [.slice (some a) len cap] ∧ len ≤ maxLen ∧ Ents w w.heap.size (some a) len es := by
  rcases open_slice Tryz.underlying22 h with ⟨h0, _⟩ | ⟨a, len, cap, m, n, D, Pl, hcs, _, hl, hm, hmm, _, hi⟩
  · exact .inl h0
  · right
    have hmc : m = cap := by simpa using hmm
    subst hmc
    have he : ∀ i, ∃ e, i < len → EntAt w a i e := fun i => by
      by_cases hil : i < len
      · obtain ⟨cs', hc, ht⟩ := hi i (by omega)
        rw [cells_ent] at hc
        obtain ⟨s, hs⟩ := ent_in hc ht
        exact ⟨s, fun _ => hs⟩
      · exact ⟨⟨0, 0, []⟩, fun h => absurd h hil⟩
    refine ⟨a, len, m, (List.range len).map fun i => Classical.choose (he i), hcs, by omega, by simp, fun k hk => ?_⟩
    have hk2 : k < len := by simpa using hk
    obtain ⟨⟨h1, h2, h3⟩, h4⟩ := Classical.choose_spec (he k) hk2
    have e : ((List.range len).map fun i => Classical.choose (he i))[k] = Classical.choose (he k) := by simp
    rw [e]
    exact ⟨a, rfl, World.block_lt_of_cell? w _ h1, h1, h2, h3, h4⟩
end
theorem laidOut_ : laidOutB Tryz.prog = true := by kernel_rfl
theorem glob_lt (w : World) {g : Nat} {v : Value} (h : w.cell? ⟨g, 0, none⟩ = some v) : g < w.heap.size := World.block_lt_of_cell? w _ h
/-- What the rows' condition gives. -/
theorem tables_of {W : World} (h : laidMetH Tryz.prog Rows.segmentFindsRow.laid W) : Tables W := by
  rw [MakeChecks.laidMetH_plain _ _ _ (by kernel_rfl)] at h
  obtain ⟨ps, ⟨g0, t0, cs0, f0, p0, q0, hg0, ht0, hv0, hd0, ⟨g1, t1, cs1, f1, p1, q1, hg1, ht1, hv1, hd1, _, _⟩, _⟩, _, _⟩ := h
  obtain rfl := Option.some.inj (gFold.symm.trans hg0)
  obtain rfl := Option.some.inj (gCut.symm.trans hg1)
  obtain rfl := Option.some.inj (tFold.symm.trans ht0)
  obtain rfl := Option.some.inj (tCut.symm.trans ht1)
  obtain ⟨ad0, c0, hc0, hf⟩ := fold_in hd0
  obtain ⟨ad1, c1, hc1, hk⟩ := cut_in hd1
  have k0 : W.cell? ⟨2, 0, none⟩ = some (.slice (some ad0) 17 c0) := by
    have := World.var?_cell hg0 hv0 0
    rw [Array.eq_one_of_toList hc0] at this
    simpa using this
  have k1 : W.cell? ⟨0, 0, none⟩ = some (.slice (some ad1) 19 c1) := by
    have := World.var?_cell hg1 hv1 0
    rw [Array.eq_one_of_toList hc1] at this
    simpa using this
  exact ⟨⟨glob_lt W k0, ad0, c0, k0, hf⟩, ⟨glob_lt W k1, ad1, c1, k1, hk⟩⟩
/-- The door's own heap meets the condition. -/
theorem door_met (os : Os) (args : Array Value) : laidMetH Tryz.prog Rows.segmentFindsRow.laid ((World.doorLaid Tryz.prog 4000 os).forCall (fun _ _ => 0) ⟨#[], args, []⟩).memory :=
  laidMetH_of_parts3 (fuel := 8) (laidMet_of_run' 8 (by kernel_rfl) (by kernel_rfl)) (by kernel_rfl) (by kernel_rfl)
end Go.Proofs.YtfinpehbpcckaaaGreatDoor
end
section
namespace Go.Proofs.YtfinpehbpcckaaaGreatDoor
set_option linter.unusedVariables false

/-- Postings out of the entries U. -/
structure Nice (U : List Ent) (l : List Post) : Prop where
  fine : Fine l
  ne : ∀ p, p ∈ l → p.places ≠ []
  docs : ∀ p, p ∈ l → ∃ e, e ∈ U ∧ e.doc = p.doc
  pos : ∀ p, p ∈ l → ∀ k, k ∈ p.places → 0 ≤ k ∧ k < 1000
theorem Nice.nil_ (U : List Ent) : Nice U [] := ⟨Fine.nil_, fun p hp => (by cases hp), fun p hp => (by cases hp), fun p hp => (by cases hp)⟩
theorem nice_posts {U : List Ent} {s : Seg} (h : Built U s) (g : Goods U) (hU : EFew U) (t : Key) : Nice U (postsE (evsOf U) s.docs t) := by
  refine ⟨postsE_fine h g t, fun p hp => ((postRight_iff.1 (h.right_posts g t)).1 p hp).1, fun p hp => (h.docs_mem p.doc).1 (postsE_mem.1 hp).1, fun p hp k hk => ?_⟩
  rw [(postsE_mem.1 hp).2.2] at hk
  rcases placesE_cases g.apart t p.doc with e | ⟨e, he, _, _, e2⟩
  · rw [e] at hk; cases hk
  · rw [e2] at hk
    obtain ⟨j, rfl, hj⟩ := idxs_mem.1 hk
    obtain ⟨hj, _⟩ := List.getElem?_eq_some_iff.1 hj
    have h1 := list_few e.text
    have h2 := hU.text e he
    omega
theorem Nice.or {U : List Ent} {a b : List Post} (ha : Nice U a) (hb : Nice U b) : Nice U (orP a b) := by
  have key : ∀ p, p ∈ orP a b → p.places ≠ [] ∧ (∃ e, e ∈ U ∧ e.doc = p.doc) ∧ ∀ k, k ∈ p.places → 0 ≤ k ∧ k < 1000 := by
    intro p hp
    obtain ⟨e, he, rfl⟩ := List.mem_map.1 hp
    have hk := evs_ok a b ha.fine.docs hb.fine.docs e he
    obtain ⟨x, y⟩ := e
    cases x with
    | none => cases y with
      | none => exact hk.elim
      | some y => exact ⟨hb.ne y hk.1, hb.docs y hk.1, hb.pos y hk.1⟩
    | some x => cases y with
      | none => exact ⟨ha.ne x hk.1, ha.docs x hk.1, ha.pos x hk.1⟩
      | some y =>
        have hm := unionP_mem (ha.fine.rows x hk.1) (hb.fine.rows y hk.2.1)
        refine ⟨fun e => ?_, ha.docs x hk.1, fun k hk2 => ?_⟩
        · obtain ⟨z, hz⟩ := List.exists_mem_of_ne_nil _ (ha.ne x hk.1)
          have h1 := (hm z).2 (.inl hz)
          have e' : unionP x.places y.places = [] := e
          rw [e'] at h1
          cases h1
        · rcases (hm k).1 hk2 with h | h
          · exact ha.pos x hk.1 k h
          · exact hb.pos y hk.2.1 k h
  exact ⟨orP_fine ha.fine hb.fine, fun p hp => (key p hp).1, fun p hp => (key p hp).2.1, fun p hp => (key p hp).2.2⟩
theorem nice_foundL {U : List Ent} {s : Seg} (h : Built U s) (g : Goods U) (hU : EFew U) (field : Int) (p : List UInt8 → Bool) : ∀ ts : List Trm, (∀ t, t ∈ ts → t ∈ s.terms) → Nice U (foundL ts field p) := by
  refine snoc_ind ?_ ?_
  · exact fun _ => Nice.nil_ U
  · intro r t ih hs
    have h1 := ih fun x hx => hs x (by simp [hx])
    have hd := h.dec g hU (hs t (by simp))
    rw [foundL_snoc]
    by_cases hc : (field = 0 ∨ field = t.field) ∧ p t.word = true
    · rw [if_pos hc, hd]
      exact h1.or (nice_posts h g hU (keyT t))
    · rw [if_neg hc]
      exact h1
theorem nice_found {U : List Ent} {s : Seg} (h : Built U s) (g : Goods U) (hU : EFew U) (field : Int) (p : List UInt8 → Bool) : Nice U (foundP s field p) := by
  unfold foundP
  rw [if_pos (h.valid g hU)]
  exact nice_foundL h g hU field p s.terms fun t ht => ht
theorem fine_same {l : List Post} (hl : Fine l) {p q : Post} (hp : p ∈ l) (hq : q ∈ l) (e : p.doc = q.doc) : p = q := by
  have h1 := hl.docs
  rcases List.getElem_of_mem hp with ⟨i, hi, rfl⟩
  rcases List.getElem_of_mem hq with ⟨j, hj, rfl⟩
  have h2 := List.pairwise_iff_getElem.1 h1
  rcases Nat.lt_trichotomy i j with h3 | h3 | h3
  · have := h2 i j hi hj h3; omega
  · subst h3; rfl
  · have := h2 j i hj hi h3; omega
/-- Postings hang on what they hold alone. -/
theorem Nice.ext {U : List Ent} {a b : List Post} (ha : Nice U a) (hb : Nice U b) (h : ∀ d k, Has a d k ↔ Has b d k) : a = b := by
  have key : ∀ {a b : List Post}, Nice U a → Nice U b → (∀ d k, Has a d k ↔ Has b d k) → ∀ p, p ∈ a → p ∈ b := by
    intro a b ha hb h p hp
    obtain ⟨z, hz⟩ := List.exists_mem_of_ne_nil _ (ha.ne p hp)
    obtain ⟨q, hq, hd, hk⟩ := (h p.doc z).1 ⟨p, hp, rfl, hz⟩
    have hpl : p.places = q.places := asc_ext _ _ (ha.fine.rows p hp) (hb.fine.rows q hq) fun x => by
      constructor
      · intro hx
        obtain ⟨q2, hq2, hd2, hk2⟩ := (h p.doc x).1 ⟨p, hp, rfl, hx⟩
        rw [fine_same hb.fine hq hq2 (hd.trans hd2.symm)]
        exact hk2
      · intro hx
        obtain ⟨p2, hp2, hd2, hk2⟩ := (h q.doc x).2 ⟨q, hq, rfl, hx⟩
        rw [fine_same ha.fine hp hp2 (hd.symm.trans hd2.symm)]
        exact hk2
    obtain ⟨d1, l1⟩ := p
    obtain ⟨d2, l2⟩ := q
    dsimp only at hd hpl
    subst hd; subst hpl
    exact hq
  exact asc_ext_of (fun x y : Post => x.doc < y.doc) (fun x => Int.lt_irrefl _) (fun x y z => Int.lt_trans) a b ha.fine.docs hb.fine.docs fun x => ⟨key ha hb h x, key hb ha (fun d k => (h d k).symm) x⟩
theorem Nice.len {U : List Ent} {l : List Post} (h : Nice U l) (hU : EFew U) : l.length ≤ 24 := by
  have h1 := nodup_len (l.map (·.doc)) (U.map (·.doc)) (List.Pairwise.imp (fun h => Int.ne_of_lt h) h.fine.ints) fun x hx => by
    obtain ⟨p, hp, rfl⟩ := List.mem_map.1 hx
    obtain ⟨e, he, h2⟩ := h.docs p hp
    exact List.mem_map.2 ⟨e, he, h2⟩
  rw [List.length_map, List.length_map] at h1
  exact Nat.le_trans h1 hU.len
theorem Nice.places {U : List Ent} {l : List Post} (h : Nice U l) : ∀ p, p ∈ l → p.places.length ≤ 1000 := by
  intro p hp
  have h1 := nodup_len p.places ((List.range 1000).map Int.ofNat) (List.Pairwise.imp (fun h => Int.ne_of_lt h) (h.fine.rows p hp)) fun x hx => by
    have := h.pos p hp x hx
    exact List.mem_map.2 ⟨x.toNat, List.mem_range.2 (by omega), by simp; omega⟩
  rw [List.length_map, List.length_range] at h1
  exact h1
/-- The union of what Look finds for the words of a field that begin so. -/
def ofL (s : Seg) (f : Int) (pre : List UInt8) (ts : List Trm) : List Post := ts.foldl (fun out t => if t.field = f ∧ pre <+: t.word then orP out (lookP s f t.word) else out) []
theorem ofL_snoc (s : Seg) (f : Int) (pre : List UInt8) (ts : List Trm) (t : Trm) : ofL s f pre (ts ++ [t]) = if t.field = f ∧ pre <+: t.word then orP (ofL s f pre ts) (lookP s f t.word) else ofL s f pre ts := by
  unfold ofL; rw [List.foldl_append]; rfl
theorem nice_ofL {U : List Ent} {s : Seg} (h : Built U s) (g : Goods U) (hU : EFew U) (f : Int) (pre : List UInt8) : ∀ ts : List Trm, Nice U (ofL s f pre ts) ∧ ∀ d k, Has (ofL s f pre ts) d k ↔ ∃ t, t ∈ ts ∧ t.field = f ∧ pre <+: t.word ∧ Has (lookP s f t.word) d k := by
  refine snoc_ind ?_ ?_
  · exact ⟨Nice.nil_ U, fun d k => ⟨fun ⟨p, hp, _⟩ => (by cases hp), fun ⟨t, ht, _⟩ => (by cases ht)⟩⟩
  · intro r t ih
    have hn : Nice U (lookP s f t.word) := nice_found h g hU f _
    rw [ofL_snoc]
    by_cases hc : t.field = f ∧ pre <+: t.word
    · rw [if_pos hc]
      refine ⟨ih.1.or hn, fun d k => ?_⟩
      rw [orP_has ih.1.fine hn.fine, ih.2]
      constructor
      · rintro (⟨x, hx, hh⟩ | hh)
        · exact ⟨x, by simp [hx], hh⟩
        · exact ⟨t, by simp, hc.1, hc.2, hh⟩
      · rintro ⟨x, hx, hh⟩
        rcases List.mem_append.1 hx with hx | hx
        · exact .inl ⟨x, hx, hh⟩
        · rw [List.mem_singleton] at hx; subst hx; exact .inr hh.2.2
    · rw [if_neg hc]
      refine ⟨ih.1, fun d k => ?_⟩
      rw [ih.2]
      constructor
      · rintro ⟨x, hx, hh⟩; exact ⟨x, by simp [hx], hh⟩
      · rintro ⟨x, hx, hh⟩
        rcases List.mem_append.1 hx with hx | hx
        · exact ⟨x, hx, hh⟩
        · rw [List.mem_singleton] at hx; subst hx; exact absurd ⟨hh.1, hh.2.1⟩ hc
theorem pref_has {U : List Ent} {s : Seg} (h : Built U s) (g : Goods U) (hU : EFew U) (f : Int) (pre : List UInt8) (d k : Int) : Has (prefP s f pre) d k ↔ ∃ t, t ∈ s.terms ∧ (f = 0 ∨ f = t.field) ∧ pre <+: t.word ∧ k ∈ placesE (evsOf U) (keyT t) d := by
  unfold prefP
  rw [(found_has h g hU f _).2]
  simp
/-- Prefix is the union of Look over the words that begin so. -/
theorem ofL_pref {U : List Ent} {s : Seg} (h : Built U s) (g : Goods U) (hU : EFew U) {f : Int} (hf : f ≠ 0) (pre : List UInt8) : ofL s f pre s.terms = prefP s f pre := by
  refine (nice_ofL h g hU f pre s.terms).1.ext (nice_found h g hU f _) fun d k => ?_
  rw [(nice_ofL h g hU f pre s.terms).2]
  show _ ↔ Has (prefP s f pre) d k
  rw [pref_has h g hU]
  constructor
  · rintro ⟨t, ht, rfl, h2, h3⟩
    rw [look_has h g hU hf] at h3
    exact ⟨t, ht, .inr rfl, h2, h3⟩
  · rintro ⟨t, ht, h1, h2, h3⟩
    have h1 := (h1.resolve_left hf).symm
    subst h1
    exact ⟨t, ht, rfl, h2, (look_has h g hU hf t.word d k).2 h3⟩
theorem Built.field {U : List Ent} {s : Seg} (h : Built U s) (g : Goods U) {t : Trm} (ht : t ∈ s.terms) : 1 ≤ t.field ∧ t.field ≤ 5 := by
  obtain ⟨e, he, e1⟩ := (h.terms_mem (keyT t)).1 ⟨t, ht, rfl⟩
  obtain ⟨y, hy, h1, _⟩ := ev_mem he
  have h2 := (countsP_iff.1 (g.counts y hy)).2
  have h3 : e.1.1 = t.field := by rw [e1]; rfl
  omega
/-- The unions over the fields up to n. -/
def upTo (g : Int → List Post) : Nat → List Post
  | 0 => []
  | n + 1 => orP (upTo g n) (g ((n + 1 : Nat) : Int))
theorem nice_upTo {U : List Ent} {q : Int → List Post} (h : ∀ f, Nice U (q f)) : ∀ n, Nice U (upTo q n) ∧ ∀ d k, Has (upTo q n) d k ↔ ∃ f : Int, 1 ≤ f ∧ f ≤ n ∧ Has (q f) d k
  | 0 => ⟨Nice.nil_ U, fun d k => ⟨fun ⟨p, hp, _⟩ => (by cases hp), fun ⟨f, h1, h2, _⟩ => by omega⟩⟩
  | n + 1 => by
    have ih := nice_upTo h n
    refine ⟨ih.1.or (h _), fun d k => ?_⟩
    unfold upTo
    rw [orP_has ih.1.fine (h _).fine, ih.2]
    constructor
    · rintro (⟨f, h1, h2, h3⟩ | h3)
      · exact ⟨f, h1, by omega, h3⟩
      · exact ⟨_, by omega, Int.le_refl _, h3⟩
    · rintro ⟨f, h1, h2, h3⟩
      by_cases e : f = ((n + 1 : Nat) : Int)
      · subst e; exact .inr h3
      · exact .inl ⟨f, h1, by omega, h3⟩
theorem upTo_pref {U : List Ent} {s : Seg} (h : Built U s) (g : Goods U) (hU : EFew U) (pre : List UInt8) : upTo (fun f => ofL s f pre s.terms) 5 = prefP s 0 pre := by
  have hn := nice_upTo (fun f => (nice_ofL h g hU f pre s.terms).1) 5
  refine hn.1.ext (nice_found h g hU 0 _) fun d k => ?_
  rw [hn.2]
  show _ ↔ Has (prefP s 0 pre) d k
  rw [pref_has h g hU]
  constructor
  · rintro ⟨f, h1, h2, h3⟩
    rw [ofL_pref h g hU (by omega), pref_has h g hU] at h3
    obtain ⟨t, ht, _, h5, h6⟩ := h3
    exact ⟨t, ht, .inl rfl, h5, h6⟩
  · rintro ⟨t, ht, _, h2, h3⟩
    have hb := h.field g ht
    refine ⟨t.field, hb.1, by omega, ?_⟩
    rw [ofL_pref h g hU (by omega), pref_has h g hU]
    exact ⟨t, ht, .inr rfl, h2, h3⟩
theorem upTo_look {U : List Ent} {s : Seg} (h : Built U s) (g : Goods U) (hU : EFew U) (w : List UInt8) : upTo (fun f => lookP s f w) 5 = lookP s 0 w := by
  have hn := nice_upTo (q := fun f => lookP s f w) (fun f => nice_found h g hU f _) 5
  refine hn.1.ext (nice_found h g hU 0 _) fun d k => ?_
  have key : ∀ f : Int, Has (lookP s f w) d k ↔ ∃ t, t ∈ s.terms ∧ (f = 0 ∨ f = t.field) ∧ t.word = w ∧ k ∈ placesE (evsOf U) (keyT t) d := fun f => by
    unfold lookP
    rw [(found_has h g hU f _).2]
    simp
  rw [hn.2]
  show _ ↔ Has (lookP s 0 w) d k
  rw [key]
  constructor
  · rintro ⟨f, h1, h2, h3⟩
    obtain ⟨t, ht, _, h5, h6⟩ := (key f).1 h3
    exact ⟨t, ht, .inl rfl, h5, h6⟩
  · rintro ⟨t, ht, _, h2, h3⟩
    have hb := h.field g ht
    exact ⟨t.field, hb.1, by omega, (key _).2 ⟨t, ht, .inr rfl, h2, h3⟩⟩
end Go.Proofs.YtfinpehbpcckaaaGreatDoor
end
section
namespace Go.Proofs.YtfinpehbpcckaaaGreatDoor
open Go.RowKit
set_option linter.unusedVariables false

def inB (n lo hi : Int) : Bool := decide (lo ≤ n ∧ n ≤ hi)
theorem rin_any (n lo hi : Int) (w : World) : Calls Tryz.prog 69 #[.int .i64 n, .int .i64 lo, .int .i64 hi] w fun e w' => e = .returned (.bool (inB n lo hi)) ∧ w' = w := by
  by_cases h1 : lo ≤ n
  · by_cases h2 : n ≤ hi
    · have HF := Lib.hid (show inB n lo hi = true from decide_eq_true ⟨h1, h2⟩)
      have d1 : decide (lo ≤ n) = true := decide_eq_true h1
      have d2 : decide (n ≤ hi) = true := decide_eq_true h2
      go_enter Tryz.func69, Tryz.ntmps69
      go_wp2
      go_ret
      exact ⟨by rw [HF.out]; rfl, rfl⟩
    · have HF := Lib.hid (show inB n lo hi = false from decide_eq_false (by omega))
      have d1 : decide (lo ≤ n) = true := decide_eq_true h1
      have d2 : decide (n ≤ hi) = false := decide_eq_false h2
      go_enter Tryz.func69, Tryz.ntmps69
      go_wp2
      go_ret
      exact ⟨by rw [HF.out]; rfl, rfl⟩
  · have HF := Lib.hid (show inB n lo hi = false from decide_eq_false (by omega))
    have d1 : decide (lo ≤ n) = false := decide_eq_false h1
    go_enter Tryz.func69, Tryz.ntmps69
    go_wp2
    go_ret
    exact ⟨by rw [HF.out]; rfl, rfl⟩
theorem rhas_any (A : Option Addr) (n c : Nat) (l : List Int) (x : Int) (w : World) (h : Ints w w.heap.size A n l) (hn : n ≤ 1000000000) :
    Calls Tryz.prog 71 #[.slice A n c, .int .i64 x] w fun e w' => e = .returned (.bool (l.contains x)) ∧ w' = w := by
  have H := Lib.hid h
  have HN := Lib.hid h.len
  clear h
  go_enter Tryz.func71, Tryz.ntmps71
  go_wp2
  go_loopw [5] (fun i wr => ∃ k : Nat, k ≤ n ∧ i = .int .i64 (k : Int) ∧ wr = w ∧ Hid (∀ y, y ∈ l.take k → y ≠ x)) (fun i _ => n - (intOf i).toNat)
  case atStart => exact ⟨0, Nat.zero_le _, rfl, rfl, fun y hy => by simp at hy⟩
  case round =>
    obtain ⟨k, hk, rfl, rfl, HA⟩ := hrel
    by_cases hlt : k < n
    · have hk2 : (k : Int) < n := by omega
      have hkl : k < l.length := by rw [HN.out]; exact hlt
      obtain ⟨ad, rfl, hb, hc⟩ := H.out.at_ hlt
      rw [gi_get hkl] at hc
      have HT := Lib.hid (show l.take (k + 1) = l.take k ++ [l[k]] from List.take_succ_eq_append_getElem hkl)
      have HM := Lib.hid (List.getElem_mem hkl)
      obtain ⟨y, hy⟩ : ∃ y, l[k] = y := ⟨_, rfl⟩
      rw [hy] at hc HT HM
      clear hy hkl
      by_cases e : y = x
      · subst e
        have HC := Lib.hid (show l.contains y = true by simpa using HM.out)
        go_wp2
        go_ret
        exact ⟨by rw [HC.out]; rfl, rfl⟩
      · have e1 : (y == x) = false := by simpa using e
        go_wp2
        go_roundw
        case rel =>
          refine ⟨k + 1, by omega, by go_num, trivial, fun z hz => ?_⟩
          rw [HT.out] at hz
          rcases List.mem_append.1 hz with hz | hz
          · exact HA.out z hz
          · rw [List.mem_singleton] at hz; subst hz; exact e
        case measure => simp [intOf] <;> omega
    · have HC := Lib.hid (show l.contains x = false by
        have h1 := HA.out
        rw [List.take_of_length_le (by rw [HN.out]; omega)] at h1
        cases e : l.contains x with
        | false => rfl
        | true => exact absurd rfl (h1 x (by simpa using e)))
      go_wp2
      go_ret
      exact ⟨by rw [HC.out]; rfl, rfl⟩
theorem bytesLess_cmp : ∀ a b : List UInt8, Op.bytesLess a b = decide (Lib.compareBytes a b < 0)
  | [], [] => rfl
  | [], _ :: _ => rfl
  | _ :: _, [] => rfl
  | a :: r, b :: t => by
    unfold Op.bytesLess Lib.compareBytes
    by_cases h1 : a < b
    · simp [h1]
    · by_cases h2 : b < a
      · have hne : ¬ a = b := fun e => by subst e; exact h1 h2
        simp [h1, h2, hne]
      · have he : a = b := by
          rw [UInt8.lt_iff_toNat_lt] at h1 h2
          exact UInt8.toNat_inj.1 (by omega)
        subst he
        have := bytesLess_cmp r t
        simpa [h1] using this
def aheadB (a b : Trm) : Bool := decide (cmpT a b < 0)
set_option maxRecDepth 100000 in
theorem rahead_any (f g : Int) (x y l k : List UInt8) (w : World) : Calls Tryz.prog 42 #[.agg #[.int .i64 f, .string (ba x), .string (ba l)], .agg #[.int .i64 g, .string (ba y), .string (ba k)]] w fun e w' => e = .returned (.bool (aheadB ⟨f, x, l⟩ ⟨g, y, k⟩)) ∧ Below w.heap.size w w' := by
  have HB := Lib.hid (show Below w.heap.size w ((w.alloc (.cells #[.int .i64 f, .string (ba x), .string (ba l)] 47)).alloc (.cells #[.int .i64 g, .string (ba y), .string (ba k)] 47)) from ((Below.refl _ _).alloc (Nat.le_refl _) _).alloc (by simp) _)
  by_cases h1 : f < g
  · have HF := Lib.hid (show aheadB ⟨f, x, l⟩ ⟨g, y, k⟩ = true from decide_eq_true (by unfold cmpT; rw [if_pos h1]; decide))
    go_enter Tryz.func42, Tryz.ntmps42
    go_wp2
    go_ret
    exact ⟨by rw [HF.out]; rfl, HB.out⟩
  · by_cases h2 : f = g
    · subst h2
      have e1 : decide (f < f) = false := decide_eq_false h1
      have HF := Lib.hid (show aheadB ⟨f, x, l⟩ ⟨f, y, k⟩ = decide (Lib.compareBytes x y < 0) by unfold aheadB cmpT; rw [if_neg h1, if_neg h1])
      go_enter Tryz.func42, Tryz.ntmps42
      go_wp2
      go_ret
      refine ⟨?_, HB.out⟩
      rw [HF.out, ← bytesLess_cmp]
      simp [ba_toList]
    · have e1 : (f == g) = false := by simpa using h2
      have HF := Lib.hid (show aheadB ⟨f, x, l⟩ ⟨g, y, k⟩ = false from decide_eq_false (by unfold cmpT; rw [if_neg h1, if_pos (show g < f by omega)]; decide))
      go_enter Tryz.func42, Tryz.ntmps42
      go_wp2
      go_ret
      exact ⟨by rw [HF.out]; rfl, HB.out⟩
end Go.Proofs.YtfinpehbpcckaaaGreatDoor
end
