/- The package variables as the rows lay them: both tables in memory; the door's own heap meets the condition. Layer 37, plain: the tokens, byte by byte. A block of bytes that the call has laid ([]byte(s), make([]byte, n)): read, stored into, made a string again. The contract of small (query): lower case of ASCII letters. Layer 37: blank, by the program and by the reference. strings.IndexRune of a rune beyond ASCII in an ASCII string. Layer 1, plain: a decimal number in canonical form, as strconv reads it. Reference 07: leap, year, month. -/
import Derived.Test.YtomcdhmcjndioaaGreatDoorRows
import Derived.Test.YtomcdhmcjndioaaGreatDoorChecked
import Derived.ProofKit
import Derived.LaidMore
import Derived.OpenShut
import Derived.Deep.Slices
import Derived.Laws.IdiomStrings
import Derived.Laws.Rows
import Derived.ShutString
import Derived.Test.YtomcdhmcjndioaaGreatDoorShelfP
import Derived.Lib.IndexLaws
import Derived.Lib.IndexAny
import Derived.BigQuiet
import Derived.Deep.QuietTactic
import Derived.Lib.AtoiAll
import Derived.Test.YtomcdhmcjndioaaGreatDoorM01
import Derived.Test.YtomcdhmcjndioaaGreatDoorM02
import Derived.Test.YtomcdhmcjndioaaGreatDoorM03
section
namespace Go.Proofs.YtomcdhmcjndioaaGreatDoor
open Go.ChangeShapes Go.WideShapes Go.ChangeAt Go.RowKit Go.Deep
set_option linter.unusedVariables false

theorem own_ : ownKnob Tryz.prog.godebug = none := by kernel_rfl
theorem gFold : Tryz.prog.globalNamed "pouch/fold.spans" = some 3 := by kernel_rfl
theorem gCut : Tryz.prog.globalNamed "pouch/cut.spans" = some 1 := by kernel_rfl
theorem tFold : (Tryz.prog.globals[(3 : Nat)]?).map (·.type) = some 131 := by kernel_rfl
theorem tCut : (Tryz.prog.globals[(1 : Nat)]?).map (·.type) = some 113 := by kernel_rfl
theorem cellsF : Tryz.prog.cellsOf 133 = 4 := by kernel_rfl
theorem cellsC : Tryz.prog.cellsOf 115 = 3 := by kernel_rfl
theorem cells_i32 : Tryz.prog.cellsOf 21 = 1 := by kernel_rfl
theorem cells_i64 : Tryz.prog.cellsOf 3 = 1 := by kernel_rfl
def laid2 : List (String × (∀ {H : Type}, DataW H)) := []
section
variable {H : Type} {enc : TypeId × Value → H} {w : World} {spare : Nat → Bool} {held : Bool}
set_option maxRecDepth 100000 in
theorem span_f {fuel : Nat} {cs : List Value} {p : List MemPlace} {a b c d : Int} (hcl : cs.length = 4) (h : DataW.trod enc Tryz.prog w 0 spare held fuel 133 cs = some (.agg [.lit (.int .i32 a), .lit (.int .i32 b), .lit (.int .i32 c), .lit (.int .i32 d)], p)) :
    cs = [.int .i32 a, .int .i32 b, .int .i32 c, .int .i32 d] := by
  obtain ⟨xs, n, _, hx, _, hxl, hf⟩ := DataW.trod_struct Tryz.underlying133 h
  match cs, hcl with
  | [c0, c1, c2, c3], _ =>
    have hx0 : DataW.trod enc Tryz.prog w 0 spare held n 21 (([c0, c1, c2, c3].drop 0).take (Tryz.prog.cellsOf 21)) = xs[0]? := hf 0 _ rfl
    have hx1 : DataW.trod enc Tryz.prog w 0 spare held n 21 (([c0, c1, c2, c3].drop 1).take (Tryz.prog.cellsOf 21)) = xs[1]? := hf 1 _ rfl
    have hx2 : DataW.trod enc Tryz.prog w 0 spare held n 21 (([c0, c1, c2, c3].drop 2).take (Tryz.prog.cellsOf 21)) = xs[2]? := hf 2 _ rfl
    have hx3 : DataW.trod enc Tryz.prog w 0 spare held n 21 (([c0, c1, c2, c3].drop 3).take (Tryz.prog.cellsOf 21)) = xs[3]? := hf 3 _ rfl
    rw [cells_i32] at hx0 hx1 hx2 hx3
    match xs, hxl, hx with
    | [x0, x1, x2, x3], _, hx =>
      simp only [List.map_cons, List.map_nil, Prod.mk.injEq, DataW.agg.injEq, List.cons.injEq, and_true] at hx
      obtain ⟨⟨e0, e1, e2, e3⟩, _⟩ := hx
      obtain ⟨m0, f0, g0, _⟩ := DataW.trod_int Tryz.underlying21 (show DataW.trod enc Tryz.prog w 0 spare held n 21 [c0] = some x0 from hx0)
      obtain ⟨m1, f1, g1, _⟩ := DataW.trod_int Tryz.underlying21 (show DataW.trod enc Tryz.prog w 0 spare held n 21 [c1] = some x1 from hx1)
      obtain ⟨m2, f2, g2, _⟩ := DataW.trod_int Tryz.underlying21 (show DataW.trod enc Tryz.prog w 0 spare held n 21 [c2] = some x2 from hx2)
      obtain ⟨m3, f3, g3, _⟩ := DataW.trod_int Tryz.underlying21 (show DataW.trod enc Tryz.prog w 0 spare held n 21 [c3] = some x3 from hx3)
      rw [g0] at e0; rw [g1] at e1; rw [g2] at e2; rw [g3] at e3
      injection e0 with e0; injection e0 with _ e0
      injection e1 with e1; injection e1 with _ e1
      injection e2 with e2; injection e2 with _ e2
      injection e3 with e3; injection e3 with _ e3
      injection f0 with f0; injection f1 with f1; injection f2 with f2; injection f3 with f3
      rw [f0, f1, f2, f3, e0, e1, e2, e3]
set_option maxRecDepth 100000 in
theorem span_c {fuel : Nat} {cs : List Value} {p : List MemPlace} {a b c : Int} (hcl : cs.length = 3) (h : DataW.trod enc Tryz.prog w 0 spare held fuel 115 cs = some (.agg [.lit (.int .i64 a), .lit (.int .i64 b), .lit (.int .i64 c)], p)) :
    cs = [.int .i64 a, .int .i64 b, .int .i64 c] := by
  obtain ⟨xs, n, _, hx, _, hxl, hf⟩ := DataW.trod_struct Tryz.underlying115 h
  match cs, hcl with
  | [c0, c1, c2], _ =>
    have hx0 : DataW.trod enc Tryz.prog w 0 spare held n 3 (([c0, c1, c2].drop 0).take (Tryz.prog.cellsOf 3)) = xs[0]? := hf 0 _ rfl
    have hx1 : DataW.trod enc Tryz.prog w 0 spare held n 3 (([c0, c1, c2].drop 1).take (Tryz.prog.cellsOf 3)) = xs[1]? := hf 1 _ rfl
    have hx2 : DataW.trod enc Tryz.prog w 0 spare held n 3 (([c0, c1, c2].drop 2).take (Tryz.prog.cellsOf 3)) = xs[2]? := hf 2 _ rfl
    rw [cells_i64] at hx0 hx1 hx2
    match xs, hxl, hx with
    | [x0, x1, x2], _, hx =>
      simp only [List.map_cons, List.map_nil, Prod.mk.injEq, DataW.agg.injEq, List.cons.injEq, and_true] at hx
      obtain ⟨⟨e0, e1, e2⟩, _⟩ := hx
      obtain ⟨m0, f0, g0, _⟩ := DataW.trod_int Tryz.underlying3 (show DataW.trod enc Tryz.prog w 0 spare held n 3 [c0] = some x0 from hx0)
      obtain ⟨m1, f1, g1, _⟩ := DataW.trod_int Tryz.underlying3 (show DataW.trod enc Tryz.prog w 0 spare held n 3 [c1] = some x1 from hx1)
      obtain ⟨m2, f2, g2, _⟩ := DataW.trod_int Tryz.underlying3 (show DataW.trod enc Tryz.prog w 0 spare held n 3 [c2] = some x2 from hx2)
      rw [g0] at e0; rw [g1] at e1; rw [g2] at e2
      injection e0 with e0; injection e0 with _ e0
      injection e1 with e1; injection e1 with _ e1
      injection e2 with e2; injection e2 with _ e2
      injection f0 with f0; injection f1 with f1; injection f2 with f2
      rw [f0, f1, f2, e0, e1, e2]
theorem datum_f : (Rows.laid_pouch_fold_spans : DataW H) = .slice ((List.range 17).map fun k => .agg [.lit (.int .i32 (fLo k)), .lit (.int .i32 (fHi k)), .lit (.int .i32 (fSt k)), .lit (.int .i32 (fMo k))]) [] := rfl
theorem datum_c : (Rows.laid_pouch_cut_spans : DataW H) = .slice ((List.range 19).map fun k => .agg [.lit (.int .i64 (kLo k)), .lit (.int .i64 (kHi k)), .lit (.int .i64 (kKd k))]) [] := rfl
theorem range_map_eq {α : Type} {m n : Nat} {f g : Nat → α} (h : (List.range m).map f = (List.range n).map g) : m = n ∧ ∀ k, k < n → f k = g k := by
  have h1 : m = n := by have := congrArg List.length h; simpa using this
  subst h1
  refine ⟨rfl, fun k hk => ?_⟩
  have h2 : ((List.range m).map f)[k]? = ((List.range m).map g)[k]? := by rw [h]
  simpa [hk] using h2
set_option maxRecDepth 100000 in
theorem fold_in {fuel : Nat} {cs : List Value} {p : List MemPlace} (h : DataW.trod enc Tryz.prog w 0 spare held fuel 131 cs = some (Rows.laid_pouch_fold_spans, p)) : ∃ ad c, cs = [.slice (some ad) 17 c] ∧ fCells w w.heap.size ad := by
  rw [datum_f] at h
  rcases open_slice Tryz.underlying131 h with ⟨_, h0⟩ | ⟨a, len, cap, m, n, D, Pl, hcs, _, hl, hm, hmm, hx, hi⟩
  · simp at h0
  · simp only [Prod.mk.injEq, DataW.slice.injEq] at hx
    obtain ⟨h1, h2⟩ := range_map_eq hx.1.1.symm
    subst h1
    have hlm : 17 ≤ m := by rw [hmm]; split <;> omega
    refine ⟨a, cap, hcs, ?_, fun k hk => ?_⟩
    · obtain ⟨cs', hc, _⟩ := hi 0 (by omega)
      rw [cellsF] at hc
      obtain ⟨_, hcl, hat⟩ := World.cells?_some hc
      have := hat 0 (by omega)
      rw [Nat.zero_mul] at this
      have hb := World.block_lt_of_cell? w ((a.add 0).add 0) (show _ = some (cs'[0]'(by omega)) by rw [this]; exact List.getElem?_eq_getElem _)
      rw [add_block, add_block] at hb
      exact hb
    · obtain ⟨cs', hc, ht⟩ := hi k (by omega)
      rw [cellsF] at hc
      rw [h2 k hk] at ht
      obtain ⟨_, hcl, hat⟩ := World.cells?_some hc
      have e := span_f hcl ht
      subst e
      have a0 := hat 0 (by omega)
      have a1 := hat 1 (by omega)
      have a2 := hat 2 (by omega)
      have a3 := hat 3 (by omega)
      exact ⟨a0, a1, a2, a3⟩
set_option maxRecDepth 100000 in
theorem cut_in {fuel : Nat} {cs : List Value} {p : List MemPlace} (h : DataW.trod enc Tryz.prog w 0 spare held fuel 113 cs = some (Rows.laid_pouch_cut_spans, p)) : ∃ ad c, cs = [.slice (some ad) 19 c] ∧ kCells w w.heap.size ad := by
  rw [datum_c] at h
  rcases open_slice Tryz.underlying113 h with ⟨_, h0⟩ | ⟨a, len, cap, m, n, D, Pl, hcs, _, hl, hm, hmm, hx, hi⟩
  · simp at h0
  · simp only [Prod.mk.injEq, DataW.slice.injEq] at hx
    obtain ⟨h1, h2⟩ := range_map_eq hx.1.1.symm
    subst h1
    have hlm : 19 ≤ m := by rw [hmm]; split <;> omega
    refine ⟨a, cap, hcs, ?_, fun k hk => ?_⟩
    · obtain ⟨cs', hc, _⟩ := hi 0 (by omega)
      rw [cellsC] at hc
      obtain ⟨_, hcl, hat⟩ := World.cells?_some hc
      have := hat 0 (by omega)
      rw [Nat.zero_mul] at this
      have hb := World.block_lt_of_cell? w ((a.add 0).add 0) (show _ = some (cs'[0]'(by omega)) by rw [this]; exact List.getElem?_eq_getElem _)
      rw [add_block, add_block] at hb
      exact hb
    · obtain ⟨cs', hc, ht⟩ := hi k (by omega)
      rw [cellsC] at hc
      rw [h2 k hk] at ht
      obtain ⟨_, hcl, hat⟩ := World.cells?_some hc
      have e := span_c hcl ht
      subst e
      have a0 := hat 0 (by omega)
      have a1 := hat 1 (by omega)
      have a2 := hat 2 (by omega)
      exact ⟨a0, a1, a2⟩
end
end Go.Proofs.YtomcdhmcjndioaaGreatDoor
end
section
namespace Go.Proofs.YtomcdhmcjndioaaGreatDoor
open Go.RowKit
set_option linter.unusedVariables false

theorem gap_step {s : List UInt8} {k : Nat} (hk : k < s.length) (h : blankQ s[k] = true) : k + gapQ (s.drop k) = (k + 1) + gapQ (s.drop (k + 1)) := by
  rw [List.drop_eq_getElem_cons hk]
  unfold gapQ
  rw [List.takeWhile_cons_of_pos h, List.length_cons]
  omega
theorem gap_stop {s : List UInt8} {k : Nat} (hk : k < s.length) (h : blankQ s[k] = false) : gapQ (s.drop k) = 0 := by
  rw [List.drop_eq_getElem_cons hk]
  unfold gapQ
  rw [List.takeWhile_cons_of_neg (by rw [h]; decide)]
  rfl
theorem gap_end {s : List UInt8} {k : Nat} (hk : s.length ≤ k) : gapQ (s.drop k) = 0 := by
  rw [List.drop_of_length_le hk]
  rfl
/-- How far the blanks are passed at k. -/
def GapRel (s : List UInt8) (a k : Nat) : Prop := a + gapQ (s.drop a) = k + gapQ (s.drop k)
theorem peek_at {s : List UInt8} {a k : Nat} (h : GapRel s a k) (h0 : gapQ (s.drop k) = 0) : peekQ s a = tokQ k (s.drop k) := by
  unfold GapRel at h
  unfold peekQ
  rw [h, h0, Nat.add_zero]
theorem tok_fin {s : List UInt8} {k : Nat} (hk : s.length ≤ k) : tokQ k (s.drop k) = ⟨k, k, .fin⟩ := by
  rw [List.drop_of_length_le hk]
  rfl
theorem tok_opn {s : List UInt8} {k : Nat} (hk : k < s.length) (h : s[k] = 40) : tokQ k (s.drop k) = ⟨k, k + 1, .opn⟩ := by
  rw [List.drop_eq_getElem_cons hk, h]
  rfl
theorem tok_sht {s : List UInt8} {k : Nat} (hk : k < s.length) (h : s[k] = 41) : tokQ k (s.drop k) = ⟨k, k + 1, .sht⟩ := by
  rw [List.drop_eq_getElem_cons hk, h]
  rfl
theorem tok_quo {s : List UInt8} {k : Nat} (hk : k < s.length) (h : s[k] = 34) : tokQ k (s.drop k) = quoQ k k (s.drop (k + 1)) 0 [] := by
  rw [List.drop_eq_getElem_cons hk, h]
  rfl
theorem tok_dash {s : List UInt8} {k : Nat} (hk : k < s.length) (h : s[k] = 45) (hk1 : k + 1 < s.length) (h1 : blankQ s[k + 1] = false) (h2 : s[k + 1] ≠ 41) : tokQ k (s.drop k) = ⟨k, k + 1, .dash⟩ := by
  rw [List.drop_eq_getElem_cons hk, h, List.drop_eq_getElem_cons hk1]
  unfold tokQ dashB
  dsimp only
  rw [if_neg (by decide), if_neg (by decide), if_neg (by decide), if_pos ⟨rfl, by rw [h1]; simpa using h2⟩]
theorem tok_bare {s : List UInt8} {k : Nat} (hk : k < s.length) (h0 : s[k] ≠ 40) (h1 : s[k] ≠ 41) (h2 : s[k] ≠ 34) (h3 : s[k] = 45 → ∀ h : k + 1 < s.length, blankQ s[k + 1] = true ∨ s[k + 1] = 41) : tokQ k (s.drop k) = bareQ k (s.drop k) := by
  conv => lhs; rw [List.drop_eq_getElem_cons hk]
  conv => rhs; rw [List.drop_eq_getElem_cons hk]
  unfold tokQ
  dsimp only
  rw [if_neg h0, if_neg h1, if_neg h2, if_neg]
  rintro ⟨h4, h5⟩
  by_cases hk1 : k + 1 < s.length
  · rw [List.drop_eq_getElem_cons hk1] at h5
    unfold dashB at h5
    rw [Bool.and_eq_true] at h5
    rcases h3 h4 hk1 with h | h
    · rw [h] at h5; exact absurd h5.1 (by decide)
    · rw [h] at h5; exact absurd h5.2 (by decide)
  · rw [List.drop_of_length_le (by omega)] at h5
    cases h5
/-- The length of a bare token. -/
def bareN (l : List UInt8) : Nat := (l.takeWhile (fun c => !edgeQ c)).length
theorem bareN_step {s : List UInt8} {k : Nat} (hk : k < s.length) (h : edgeQ s[k] = false) : k + bareN (s.drop k) = (k + 1) + bareN (s.drop (k + 1)) := by
  rw [List.drop_eq_getElem_cons hk]
  unfold bareN
  rw [List.takeWhile_cons_of_pos (by rw [h]; rfl), List.length_cons]
  omega
theorem bareN_stop {s : List UInt8} {k : Nat} (hk : k < s.length) (h : edgeQ s[k] = true) : bareN (s.drop k) = 0 := by
  rw [List.drop_eq_getElem_cons hk]
  unfold bareN
  rw [List.takeWhile_cons_of_neg (by rw [h]; decide)]
  rfl
theorem bareN_end {s : List UInt8} {k : Nat} (hk : s.length ≤ k) : bareN (s.drop k) = 0 := by
  rw [List.drop_of_length_le hk]
  rfl
def BareRel (s : List UInt8) (k t : Nat) : Prop := k + bareN (s.drop k) = t + bareN (s.drop t)
theorem bare_text {s : List UInt8} {k t : Nat} (h : BareRel s k t) (h0 : bareN (s.drop t) = 0) : (s.drop k).takeWhile (fun c => !edgeQ c) = (s.take t).drop k := by
  unfold BareRel at h
  rw [h0] at h
  have h1 := List.prefix_iff_eq_take.1 (List.takeWhile_prefix (p := fun c => !edgeQ c) (l := s.drop k))
  rw [h1, List.drop_take]
  congr 1
  unfold bareN at h
  omega
theorem bare_len {s : List UInt8} {k t : Nat} (h : BareRel s k t) (h0 : bareN (s.drop t) = 0) : ((s.drop k).takeWhile (fun c => !edgeQ c)).length = t - k ∧ k ≤ t := by
  unfold BareRel at h
  rw [h0] at h
  unfold bareN at h
  omega
/-- A bare token that no quote follows. -/
theorem bare_plain {s : List UInt8} {k t : Nat} (h : BareRel s k t) (h0 : bareN (s.drop t) = 0) (hn : ∀ ht : t < s.length, s[t] ≠ 34) : bareQ k (s.drop k) = ⟨k, t, .bare ((s.take t).drop k)⟩ := by
  have h1 := bare_text h h0
  have h2 := bare_len h h0
  unfold bareQ
  dsimp only
  rw [h2.1, List.drop_drop, show k + (t - k) = t by omega, h1]
  split
  · rename_i u hu
    exfalso
    by_cases ht : t < s.length
    · rw [List.drop_eq_getElem_cons ht] at hu
      injection hu with hu
      exact hn ht hu
    · rw [List.drop_of_length_le (by omega)] at hu
      cases hu
  · rfl
theorem bare_last {s : List UInt8} {k t : Nat} (hkt : k < t) (ht : t ≤ s.length) : ((s.take t).drop k).getLast? = some (s[t - 1]'(by omega)) ∧ ((s.take t).drop k).dropLast = (s.take (t - 1)).drop k := by
  constructor
  · rw [List.getLast?_eq_getElem?, List.length_drop, List.length_take, Nat.min_eq_left ht, List.getElem?_drop, List.getElem?_take, if_pos (by omega), show k + (t - k - 1) = t - 1 by omega, List.getElem?_eq_getElem]
  · rw [List.dropLast_eq_take, List.length_drop, List.length_take, Nat.min_eq_left ht, List.take_drop, List.take_take]
    congr 2
    omega
/-- A quote behind a bare token that is no field's name. -/
theorem bare_other {s : List UInt8} {k t : Nat} (h : BareRel s k t) (h0 : bareN (s.drop t) = 0) (hkt : k < t) (ht : t < s.length) (hc : s[t] = 34) (hn : s[t - 1]'(by omega) ≠ 58 ∨ fieldQ ((s.take (t - 1)).drop k) = 0) : bareQ k (s.drop k) = ⟨k, t, .bare ((s.take t).drop k)⟩ := by
  have h1 := bare_text h h0
  have h2 := bare_len h h0
  have h3 := bare_last hkt (Nat.le_of_lt ht)
  unfold bareQ
  dsimp only
  rw [h2.1, List.drop_drop, show k + (t - k) = t by omega, h1, List.drop_eq_getElem_cons ht, hc]
  show (if (List.drop k (List.take t s)).getLast? = some 58 ∧ 0 < fieldQ (List.drop k (List.take t s)).dropLast then quoQ k t (List.drop (t + 1) s) (fieldQ (List.drop k (List.take t s)).dropLast) (List.drop k (List.take t s)) else _) = _
  rw [if_neg]
  rintro ⟨h4, h5⟩
  rw [h3.1] at h4
  rw [h3.2] at h5
  injection h4 with h4
  rcases hn with h6 | h6
  · exact h6 h4
  · omega
/-- A field's quoted string. -/
theorem bare_field {s : List UInt8} {k t : Nat} (h : BareRel s k t) (h0 : bareN (s.drop t) = 0) (hkt : k < t) (ht : t < s.length) (hc : s[t] = 34) (hn : s[t - 1]'(by omega) = 58) (hf : 0 < fieldQ ((s.take (t - 1)).drop k)) : bareQ k (s.drop k) = quoQ k t (s.drop (t + 1)) (fieldQ ((s.take (t - 1)).drop k)) ((s.take t).drop k) := by
  have h1 := bare_text h h0
  have h2 := bare_len h h0
  have h3 := bare_last hkt (Nat.le_of_lt ht)
  unfold bareQ
  dsimp only
  rw [h2.1, List.drop_drop, show k + (t - k) = t by omega, h1, List.drop_eq_getElem_cons ht, hc]
  show (if (List.drop k (List.take t s)).getLast? = some 58 ∧ 0 < fieldQ (List.drop k (List.take t s)).dropLast then quoQ k t (List.drop (t + 1) s) (fieldQ (List.drop k (List.take t s)).dropLast) (List.drop k (List.take t s)) else _) = _
  rw [h3.1, h3.2, hn, if_pos ⟨rfl, hf⟩]
/-- A quoted string by its bytes: closed, with r = t ++ 34 :: _, or not. -/
theorem quo_bad {src a f : Nat} {r raw : List UInt8} (h : 34 ∉ r) : quoQ src a r f raw = ⟨a, a, .bad⟩ := by
  unfold quoQ
  rw [if_neg h]
theorem quo_ok {src a f : Nat} {r raw t u : List UInt8} (h : r = t ++ 34 :: u) (ht : 34 ∉ t) : quoQ src a r f raw = ⟨src, a + t.length + 2, .quo t f raw⟩ := by
  have h1 : 34 ∈ r := by rw [h]; simp
  have h2 : r.takeWhile (· != 34) = t := by
    rw [h, List.takeWhile_append_of_pos (fun c hc => by
      have : c ≠ 34 := fun e => ht (e ▸ hc)
      simpa using this), List.takeWhile_cons_of_neg (by decide), List.append_nil]
  unfold quoQ
  rw [if_pos h1, h2]
end Go.Proofs.YtomcdhmcjndioaaGreatDoor
end
section
namespace Go.Proofs.YtomcdhmcjndioaaGreatDoor
open Go.RowKit
set_option linter.unusedVariables false

/-- Block b begins with the bytes l; they are not frozen. -/
def ByteRow (w : World) (b : Nat) (l : List UInt8) : Prop :=
  ∃ C T fr, w.heap[b]? = some (.cells C T fr) ∧ (∀ j (hj : j < l.length), C[j]? = some (.int .u8 (l[j].toNat : Int))) ∧ (l.length ≤ fr.1 ∨ fr = (0, 0))
section
variable {w w' : World} {b : Nat} {l : List UInt8}
theorem ByteRow.lt (h : ByteRow w b l) : b < w.heap.size := by
  obtain ⟨C, T, fr, h1, _⟩ := h
  exact heap_lt h1
theorem ByteRow.kept (h : ByteRow w b l) (hb : w'.heap[b]? = w.heap[b]?) : ByteRow w' b l := by
  obtain ⟨C, T, fr, h1, h2⟩ := h
  exact ⟨C, T, fr, hb.trans h1, h2⟩
theorem ByteRow.drew (h : ByteRow w b l) : ByteRow w.drew b l := h
theorem ByteRow.cell (h : ByteRow w b l) {j : Nat} (hj : j < l.length) : w.cell? ⟨b, j, none⟩ = some (.int .u8 (l[j].toNat : Int)) := by
  obtain ⟨C, T, fr, h1, h2, _⟩ := h
  rw [← h2 j hj]
  unfold World.cell?
  rw [h1]
  simp
theorem ByteRow.free (h : ByteRow w b l) {j : Nat} (hj : j < l.length) : w.frozen? ⟨b, j, none⟩ = false := by
  obtain ⟨C, T, fr, h1, h2, h3⟩ := h
  unfold World.frozen?
  rw [h1]
  rcases h3 with h3 | rfl
  · simp; omega
  · simp
theorem ByteRow.set (h : ByteRow w b l) {k : Nat} (hk : k < l.length) (c : UInt8) : ByteRow (w.setCell ⟨b, k, none⟩ (.int .u8 (c.toNat : Int))) b (l.set k c) := by
  obtain ⟨C, T, fr, h1, h2, h3⟩ := h
  refine ⟨C.setIfInBounds k (.int .u8 (c.toNat : Int)), T, fr, ?_, fun j hj => ?_, by simpa using h3⟩
  · rw [setCell_eq_setRow w b k C T fr _ h1]
    exact setRow_heap w b C _ T _ h1
  · rw [List.length_set] at hj
    rw [Array.getElem?_setIfInBounds, List.getElem_set]
    by_cases e : k = j
    · subst e
      have := h2 k hk
      have hlt : k < C.size := (Array.getElem?_eq_some_iff.1 this).1
      simp [hlt]
    · rw [if_neg e, if_neg e]
      exact h2 j hj
theorem ByteRow.of_string (w : World) (l : List UInt8) (cap : Nat) (T : TypeId) (m : Nat) (hm : l.length ≤ m) : ByteRow (w.alloc (.cells (bytesRow (ba l) cap) T (m, m + 1))) w.heap.size l := by
  refine ⟨bytesRow (ba l) cap, T, (m, m + 1), ?_, fun j hj => ?_, .inl hm⟩
  · show (w.heap.push _)[w.heap.size]? = _
    simp
  · exact bytesRow_at (ba l) cap j (by simpa [ba] using hj)
theorem ByteRow.zeros (w : World) (n m : Nat) (T : TypeId) (hm : n ≤ m) : ByteRow (w.alloc (.cells (Array.replicate m (.int .u8 0)) T)) w.heap.size (List.replicate n 0) := by
  refine ⟨Array.replicate m (.int .u8 0), T, (0, 0), ?_, fun j hj => ?_, .inr rfl⟩
  · show (w.heap.push _)[w.heap.size]? = _
    simp
  · rw [List.length_replicate] at hj
    rw [List.getElem_replicate, Array.getElem?_replicate, if_pos (by omega)]
    rfl
theorem ByteRow.cells (h : ByteRow w b l) : ∀ j (hj : j < l.length), w.cell? (Addr.add ⟨b, 0, none⟩ j) = some (.int .u8 (l[j].toNat : Int)) := fun j hj => by
  have e : Addr.add ⟨b, 0, none⟩ j = ⟨b, j, none⟩ := by
    unfold Addr.add
    split
    · rename_i h0; rw [h0]
    · rw [Nat.zero_add]
  rw [e]
  exact h.cell hj
end
theorem bytesRow_size (s : ByteArray) (cap : Nat) (h : s.size ≤ cap) : (bytesRow s cap).size = cap := by
  unfold bytesRow
  rw [Array.size_append, Array.size_map, Array.size_replicate]
  have : s.data.size = s.size := rfl
  omega
end Go.Proofs.YtomcdhmcjndioaaGreatDoor
end
section
namespace Go.Proofs.YtomcdhmcjndioaaGreatDoor
open Go.RowKit
set_option linter.unusedVariables false

/-- A string handed back; what was there stands. -/
def StrB (w : World) (l : List UInt8) (e : Ending) (w' : World) : Prop := e = .returned (.string (ba l)) ∧ Below w.heap.size w w'
theorem smallB_yes {c : UInt8} (h : 65 ≤ (c.toNat : Int) ∧ (c.toNat : Int) ≤ 90) : smallB c = UInt8.ofNat (c.toNat + 32) := by
  unfold smallB
  have h1 : 65 ≤ c ∧ c ≤ 90 := by
    rw [UInt8.le_iff_toNat_le, UInt8.le_iff_toNat_le]
    show (65 : Nat) ≤ _ ∧ _ ≤ (90 : Nat)
    omega
  rw [if_pos h1]
  apply UInt8.toNat_inj.1
  rw [UInt8.toNat_add]
  simp
theorem smallB_no {c : UInt8} (h : ¬ (65 ≤ (c.toNat : Int) ∧ (c.toNat : Int) ≤ 90)) : smallB c = c := by
  unfold smallB
  have h1 : ¬ (65 ≤ c ∧ c ≤ 90) := by
    rw [UInt8.le_iff_toNat_le, UInt8.le_iff_toNat_le]
    show ¬ ((65 : Nat) ≤ _ ∧ _ ≤ (90 : Nat))
    omega
  rw [if_neg h1]
/-- The state of the loop: k bytes are done. -/
structure SmRel (w : World) (l : List UInt8) (k : Nat) (wr : World) : Prop where
  row : ByteRow wr w.heap.size (smallP (l.take k) ++ l.drop k)
  bel : Below w.heap.size w wr
theorem sm_len (l : List UInt8) (k : Nat) : (smallP (l.take k) ++ l.drop k).length = l.length := by
  rw [List.length_append, smallP_len, List.length_take, List.length_drop]
  omega
theorem sm_get {l : List UInt8} {k : Nat} (hk : k < l.length) (h : k < (smallP (l.take k) ++ l.drop k).length) : (smallP (l.take k) ++ l.drop k)[k] = l[k] := by
  rw [List.getElem_append_right (by rw [smallP_len, List.length_take]; omega)]
  simp only [smallP_len, List.length_take, List.getElem_drop]
  congr 1
  omega
theorem sm_step {l : List UInt8} {k : Nat} (hk : k < l.length) : smallP (l.take (k + 1)) ++ l.drop (k + 1) = (smallP (l.take k) ++ l.drop k).set k (smallB l[k]) := by
  rw [List.take_succ_eq_append_getElem hk]
  have e1 : smallP (l.take k ++ [l[k]]) = smallP (l.take k) ++ [smallB l[k]] := by unfold smallP; rw [List.map_append]; rfl
  have e2 : l.drop k = l[k] :: l.drop (k + 1) := List.drop_eq_getElem_cons hk
  have e3 : k - (smallP (l.take k)).length = 0 := by rw [smallP_len, List.length_take]; omega
  rw [e1, List.set_append_right _ _ (by rw [smallP_len, List.length_take]; omega), e3]
  conv => rhs; rw [e2]
  rw [List.append_assoc]
  rfl
theorem sm_same {l : List UInt8} {k : Nat} (hk : k < l.length) (h : smallB l[k] = l[k]) : smallP (l.take (k + 1)) ++ l.drop (k + 1) = smallP (l.take k) ++ l.drop k := by
  rw [sm_step hk, h]
  have h1 : k < (smallP (l.take k) ++ l.drop k).length := by rw [sm_len]; exact hk
  have := sm_get hk h1
  rw [← this, List.set_getElem_self]
set_option maxRecDepth 100000 in
set_option maxHeartbeats 4000000 in
theorem qsmall_any (l : List UInt8) (w : World) (hl : l.length ≤ 1000000000) :
    Calls Tryz.prog 49 #[.string (ba l)] w (StrB w (smallP l)) := by
  have hcv := fun (W : World) (S : ByteArray) => run_bytes_of_string (P := Tryz.prog) W 9 93 5 S Tryz.underlying9 Tryz.underlying93 Tryz.underlying5
  have HR0 := Lib.hid (fun (cap m : Nat) (hm : l.length ≤ m) => ByteRow.of_string w l cap 5 m hm)
  obtain ⟨n, hn⟩ : ∃ n, l.length = n := ⟨_, rfl⟩
  have HL := Lib.hid hn
  obtain ⟨s, hs⟩ : ∃ s, ba l = s := ⟨_, rfl⟩
  have HS := Lib.hid hs
  have HZ := Lib.hid (show s.size = n by rw [← hs, ba_size, hn])
  have hsz : (s.size : Int) = n := by rw [HZ.out]
  rw [hs]
  rw [hn] at hl
  clear hs hn
  rw [HS.out] at HR0
  go_enter Tryz.func49, Tryz.ntmps49
  go_wp2
  obtain ⟨C, hC⟩ : ∃ C, grownCap w s.size 0 5 = C := ⟨_, rfl⟩
  have HCN := Lib.hid (show l.length ≤ (bytesRow s C).size by rw [bytesRow_size s C (by rw [← hC]; have := grownCap_ge w s.size 0 5; omega), ← hC, HL.out]; have := grownCap_ge w s.size 0 5; omega)
  rw [hC]
  clear hC hcv
  go_loopw [10] (fun i wr => ∃ k : Nat, k ≤ n ∧ i = .int .i64 (k : Int) ∧ Hid (SmRel w l k wr)) (fun i _ => n - (intOf i).toNat)
  case atStart =>
    refine ⟨0, Nat.zero_le _, rfl, Lib.hid ⟨?_, (Below.refl _ _).drew.alloc (Nat.le_refl _) _⟩⟩
    rw [show smallP (l.take 0) ++ l.drop 0 = l from rfl]
    exact (HR0.out C _ HCN.out).drew
  case round =>
    obtain ⟨k, hk, rfl, HR⟩ := hrel
    have hsz2 := HR.out.bel.size
    by_cases hlt : k < n
    · have hk2 : (k : Int) < (n : Int) := by omega
      have hk3 : (k : Int) < (s.size : Int) := by omega
      have hk0 : (0 : Int) ≤ (k : Int) := by omega
      have hkl : k < l.length := by rw [HL.out]; exact hlt
      have hks : k < (smallP (l.take k) ++ l.drop k).length := by rw [sm_len]; exact hkl
      have hcell := HR.out.row.cell hks
      have hfree := HR.out.row.free hks
      rw [sm_get hkl hks] at hcell
      have HST := Lib.hid (sm_step hkl)
      have HSA := Lib.hid (sm_same hkl)
      have HSET := Lib.hid (HR.out.row.set hks (smallB l[k]))
      obtain ⟨c, hc⟩ : ∃ c, l[k] = c := ⟨_, rfl⟩
      rw [hc] at hcell HST HSA HSET
      have HY := Lib.hid (smallB_yes (c := c))
      have HNO := Lib.hid (smallB_no (c := c))
      obtain ⟨x, hx⟩ : ∃ x : Int, (c.toNat : Int) = x := ⟨_, rfl⟩
      rw [hx] at hcell HY HNO
      have hx0 : 0 ≤ x := by omega
      have hx1 : x ≤ 255 := by have := c.toNat_lt; omega
      have HX := Lib.hid hx
      clear hc hkl hks hx
      by_cases e1 : 65 ≤ x
      · by_cases e2 : x ≤ 90
        · have g1 : decide (65 ≤ x) = true := decide_eq_true e1
          have g2 : decide (x ≤ 90) = true := decide_eq_true e2
          have HV := Lib.hid (show (smallB c).toNat = x + 97 - 65 by rw [HY.out ⟨e1, e2⟩]; have := HX.out; have := c.toNat_lt; simp; omega)
          go_wp2
          go_roundw
          case rel =>
            refine ⟨k + 1, by omega, by go_num, Lib.hid ⟨?_, HR.out.bel.setCell (Nat.le_refl _) _⟩⟩
            rw [HST.out]
            have := HSET.out
            rw [HV.out] at this
            exact this
          case measure => simp [intOf] <;> omega
        · have g1 : decide (65 ≤ x) = true := decide_eq_true e1
          have g2 : decide (x ≤ 90) = false := decide_eq_false e2
          have HV := Lib.hid (HSA.out (HNO.out fun h => e2 h.2))
          clear hfree
          go_wp2
          go_roundw
          case rel =>
            refine ⟨k + 1, by omega, by go_num, Lib.hid ⟨?_, HR.out.bel⟩⟩
            rw [HV.out]
            exact HR.out.row
          case measure => simp [intOf] <;> omega
      · have g1 : decide (65 ≤ x) = false := decide_eq_false e1
        have HV := Lib.hid (HSA.out (HNO.out fun h => e1 h.1))
        clear hfree
        go_wp2
        go_roundw
        case rel =>
          refine ⟨k + 1, by omega, by go_num, Lib.hid ⟨?_, HR.out.bel⟩⟩
          rw [HV.out]
          exact HR.out.row
        case measure => simp [intOf] <;> omega
    · obtain rfl : k = n := by omega
      have hrow : ByteRow wr w.heap.size (smallP l) := by
        have := HR.out.row
        rw [List.take_of_length_le (by rw [HL.out]; exact Nat.le_refl _), List.drop_of_length_le (by rw [HL.out]; exact Nat.le_refl _), List.append_nil] at this
        exact this
      have hback := run_convert_bytes_back (P := Tryz.prog) wr 93 9 5 ⟨w.heap.size, 0, none⟩ C (smallP l) Tryz.underlying93 Tryz.underlying5 Tryz.underlying9 hrow.cells
      rw [smallP_len, HL.out, ← HZ.out] at hback
      clear hrow hsz
      go_wp2
      go_ret
      exact ⟨rfl, HR.out.bel⟩
end Go.Proofs.YtomcdhmcjndioaaGreatDoor
end
section
namespace Go.Proofs.YtomcdhmcjndioaaGreatDoor
open Go.RowKit
set_option linter.unusedVariables false

theorem blankQ_int {c : UInt8} {x : Int} (h : (c.toNat : Int) = x) : blankQ c = (decide (x = 32) || decide (x = 9) || decide (x = 13) || decide (x = 10)) := by
  unfold blankQ
  have e : ∀ d : UInt8, (c == d) = decide (x = (d.toNat : Int)) := fun d => by
    rw [Bool.eq_iff_iff, beq_iff_eq, decide_eq_true_iff, ← h]
    exact ⟨fun e => by rw [e], fun e => UInt8.toNat_inj.1 (by omega)⟩
  rw [e, e, e, e]
  rfl
set_option maxRecDepth 100000 in
set_option maxHeartbeats 4000000 in
theorem rqblank_any (c : UInt8) (w : World) : Calls Tryz.prog 32 #[.int .u8 (c.toNat : Int)] w fun e w' => e = .returned (.bool (blankQ c)) ∧ w' = w := by
  obtain ⟨x, hx⟩ : ∃ x : Int, (c.toNat : Int) = x := ⟨_, rfl⟩
  have HB := Lib.hid (blankQ_int hx)
  have hx0 : 0 ≤ x := by omega
  have hx1 : x ≤ 255 := by have := c.toNat_lt; omega
  rw [hx]
  clear hx
  go_enter Tryz.func32, Tryz.ntmps32
  go_wp2
  all_goals
    go_ret
    refine ⟨?_, rfl⟩
    rw [HB.out]
    refine congrArg (fun b => Ending.returned (Value.bool b)) ?_
    rw [Bool.eq_iff_iff]
    simp
    omega
theorem qblank_idx (c : UInt8) : decide (0 ≤ Lib.indexByte [32, 9, 13, 10] c) = blankQ c := by
  unfold blankQ
  by_cases h1 : c = 32
  · subst h1; rfl
  · by_cases h2 : c = 9
    · subst h2; rfl
    · by_cases h3 : c = 13
      · subst h3; rfl
      · by_cases h4 : c = 10
        · subst h4; rfl
        · have e1 : ((32 : UInt8) == c) = false := beq_eq_false_iff_ne.2 (Ne.symm h1)
          have e2 : ((9 : UInt8) == c) = false := beq_eq_false_iff_ne.2 (Ne.symm h2)
          have e3 : ((13 : UInt8) == c) = false := beq_eq_false_iff_ne.2 (Ne.symm h3)
          have e4 : ((10 : UInt8) == c) = false := beq_eq_false_iff_ne.2 (Ne.symm h4)
          have f1 : (c == (32 : UInt8)) = false := beq_eq_false_iff_ne.2 h1
          have f2 : (c == (9 : UInt8)) = false := beq_eq_false_iff_ne.2 h2
          have f3 : (c == (13 : UInt8)) = false := beq_eq_false_iff_ne.2 h3
          have f4 : (c == (10 : UInt8)) = false := beq_eq_false_iff_ne.2 h4
          simp [Lib.indexByte, e1, e2, e3, e4, f1, f2, f3, f4]
theorem qbindex_any (c : UInt8) (w : World) : Calls Tryz.prog 41 #[.string ⟨#[32, 9, 13, 10]⟩, .int .u8 (c.toNat : Int)] w fun e w' => e = .returned (.int .i64 (Lib.indexByte [32, 9, 13, 10] c)) ∧ w' = w := by
  refine (Tryz.strings_IndexByte _ (c.toNat : Int) w).mono ?_
  rintro e w' ⟨rfl, rfl⟩
  have : (c.toNat : Int).toNat.toUInt8 = c := by simp
  rw [this]
  exact ⟨rfl, rfl⟩
set_option maxRecDepth 100000 in
set_option maxHeartbeats 4000000 in
theorem qblank_any (c : UInt8) (w : World) : Calls Tryz.prog 24 #[.int .u8 (c.toNat : Int)] w fun e w' => e = .returned (.bool (blankQ c)) ∧ w' = w := by
  have HB := Lib.hid (qblank_idx c)
  have HI := Lib.hid (fun W => qbindex_any c W)
  obtain ⟨v, hv⟩ : ∃ v, Lib.indexByte [32, 9, 13, 10] c = v := ⟨_, rfl⟩
  rw [hv] at HB HI
  clear hv
  go_enter Tryz.func24, Tryz.ntmps24
  go_wp2_with fail
  refine (HI.out w).mono ?_
  rintro e w1 ⟨rfl, rfl⟩
  go_wp2
  go_ret
  refine ⟨?_, rfl⟩
  rw [← HB.out]
  rfl
end Go.Proofs.YtomcdhmcjndioaaGreatDoor
end
section
namespace Go.Proofs.YtomcdhmcjndioaaGreatDoor
open Go.RowKit
set_option linter.unusedVariables false

theorem enc_high (r : Nat) (h1 : 128 ≤ r) (h2 : r ≤ 1114111) (h3 : r < 55296 ∨ 57343 < r) : ∃ l : List UInt8, Utf8.encode (r : Int) = ba l ∧ 2 ≤ l.length ∧ l.length ≤ 4 ∧ ∀ c ∈ l, 128 ≤ c.toNat := by
  have key : ∀ l : List UInt8, (Utf8.encode (r : Int)).data.toList = l → Utf8.encode (r : Int) = ba l := fun l h => by
    subst h
    exact (ba_eq _).symm
  have v : Utf8.valid (r : Int) = true := by simp [Utf8.valid]; omega
  have hm : ∀ a : Nat, a < 128 → (UInt8.ofNat (128 + a)).toNat = 128 + a := fun a h => by simp; omega
  have c1 : ¬ r < 128 := by omega
  by_cases c2 : r < 2048
  · refine ⟨[UInt8.ofNat (128 + (64 + r / 64)), UInt8.ofNat (128 + r % 64)], key _ ?_, by simp, by simp, ?_⟩
    · have e1 : 128 + (64 + r / 64) = 192 + r / 64 := by omega
      rw [e1]
      simp [Utf8.encode, v, c1, c2]
    · intro c hc
      simp only [List.mem_cons, List.not_mem_nil, or_false] at hc
      rcases hc with rfl | rfl <;> rw [hm _ (by omega)] <;> omega
  by_cases c3 : r < 65536
  · refine ⟨[UInt8.ofNat (128 + (96 + r / 4096)), UInt8.ofNat (128 + r / 64 % 64), UInt8.ofNat (128 + r % 64)], key _ ?_, by simp, by simp, ?_⟩
    · have e1 : 128 + (96 + r / 4096) = 224 + r / 4096 := by omega
      rw [e1]
      simp [Utf8.encode, v, c1, c2, c3]
    · intro c hc
      simp only [List.mem_cons, List.not_mem_nil, or_false] at hc
      rcases hc with rfl | rfl | rfl <;> rw [hm _ (by omega)] <;> omega
  · refine ⟨[UInt8.ofNat (128 + (112 + r / 262144)), UInt8.ofNat (128 + r / 4096 % 64), UInt8.ofNat (128 + r / 64 % 64), UInt8.ofNat (128 + r % 64)], key _ ?_, by simp, by simp, ?_⟩
    · have e1 : 128 + (112 + r / 262144) = 240 + r / 262144 := by omega
      rw [e1]
      simp [Utf8.encode, v, c1, c2, c3]
    · intro c hc
      simp only [List.mem_cons, List.not_mem_nil, or_false] at hc
      rcases hc with rfl | rfl | rfl | rfl <;> rw [hm _ (by omega)] <;> omega
theorem indexByte_not {l : List UInt8} {c : UInt8} (h : c ∉ l) : Lib.indexByte l c = -1 := by
  have h1 := Lib.indexByte_ge l c
  by_cases e : Lib.indexByte l c < 0
  · omega
  · obtain ⟨o, ho⟩ : ∃ o : Nat, Lib.indexByte l c = o := ⟨(Lib.indexByte l c).toNat, by omega⟩
    exact absurd (List.mem_of_getElem? (Lib.indexByte_some ho).1) h
/-- An ASCII string of 4 to 8 bytes: what IndexRune is called on here. -/
def Asc (l : List UInt8) : Prop := 4 ≤ l.length ∧ l.length ≤ 8 ∧ ∀ c ∈ l, c.toNat < 128
theorem asc_unit {l : List UInt8} {k : Nat} (h : Asc l) (hk : k < l.length) : ((uN (l.drop k)).1 = l[k].toNat ∧ (uN (l.drop k)).2 = 1) := by
  have hne : l.drop k ≠ [] := by intro e; have := congrArg List.length e; rw [List.length_drop] at this; simp at this; omega
  have hb : bt (l.drop k) 0 = l[k].toNat := by
    unfold bt
    rw [List.drop_eq_getElem_cons hk]
    rfl
  have hl := h.2.2 l[k] (List.getElem_mem hk)
  rcases uN_cases _ hne with h1 | h1 | h1 | h1 <;> rw [hb] at h1 <;> omega
set_option maxRecDepth 100000 in
set_option maxHeartbeats 4000000 in
theorem indexRune_bad (l : List UInt8) (hl : Asc l) (w : World) :
    Calls Tryz.prog 43 #[.string (ba l), .int .i32 65533] w fun e w' => e = .returned (.int .i64 (-1)) ∧ Below w.heap.size w w' := by
  have HA := Lib.hid hl
  have hsz : (ba l).size = l.length := ba_size l
  have HSZ := Lib.hid hsz
  have HL8 := Lib.hid hl.2.1
  clear hsz hl
  go_enter Tryz.func43, Tryz.ntmps43
  go_wp2
  go_loopw [] (fun wr => ∃ pos : Nat, pos ≤ (ba l).size ∧ Hid (Below w.heap.size w wr ∧ wr.heap[w.heap.size]? = some (.stringIter (ba l) pos))) (fun wr => (ba l).size - wr.iterPos w.heap.size)
  case atStart => exact ⟨0, Nat.zero_le _, Lib.hid ⟨(Below.refl w.heap.size w).alloc (Nat.le_refl _) _, (MapKept.heap_alloc w (.stringIter (ba l) 0)).1⟩⟩
  case round =>
    obtain ⟨pos, hpos, HR⟩ := hrel
    have hit := HR.out.2
    have hszr : w.heap.size < wr.heap.size := heap_lt hit
    by_cases hp : pos < (ba l).size
    · have hnx0 : ∀ ty, (Instr.next (.pointer (some ⟨w.heap.size, 0, none⟩)) true ty).run Tryz.prog wr = _ := fun ty => Lib.run_next_any_at wr w.heap.size (ba l) pos ty hit hp
      have hdec : Utf8.decode (ba l) pos = uN (l.drop pos) := uN_at l pos
      have hkl : pos < l.length := by rw [← HSZ.out]; exact hp
      obtain ⟨u1, u2⟩ := asc_unit HA.out hkl
      have hlt := HA.out.2.2 l[pos] (List.getElem_mem hkl)
      obtain ⟨⟨r, n⟩, hrn⟩ : ∃ q, uN (l.drop pos) = q := ⟨_, rfl⟩
      rw [hrn] at hdec u1 u2
      rw [hdec] at hnx0
      dsimp only at u1 u2 hnx0
      have hr : r < 128 := by omega
      have hreq : ((r : Int) == 65533) = false := by simp; omega
      have hit2 := Lib.iterAt_heap wr w.heap.size (ba l) pos (pos + n) hit
      have hbw2 := Lib.below_iterAt HR.out.1 (k := w.heap.size) (by omega) (ba l) (pos + n)
      obtain ⟨W, hW⟩ : ∃ W, wr.iterAt w.heap.size (ba l) (pos + n) = W := ⟨_, rfl⟩
      rw [hW] at hnx0 hit2 hbw2
      have hnx := hnx0
      have HF := Lib.hid (And.intro hbw2 hit2)
      have HIT := Lib.hid hit
      have HN := Lib.hid u2
      clear hnx0 hit hit2 hbw2 hrn hdec u1 u2 hlt hr hkl hW HR
      go_wp2
      go_roundw
      case rel => exact ⟨pos + n, by have := HN.out; omega, HF⟩
      case measure =>
        simp only [World.iterPos, HF.out.2, HIT.out]
        have := HN.out
        omega
    · have hnx : ∀ ty, (Instr.next (.pointer (some ⟨w.heap.size, 0, none⟩)) true ty).run Tryz.prog wr = _ := fun ty => Lib.run_next_end_at wr w.heap.size (ba l) pos ty hit hp
      clear hit
      go_wp2
      go_ret
      exact ⟨rfl, HR.out.1⟩
set_option maxRecDepth 100000 in
set_option maxHeartbeats 4000000 in
theorem indexRune_high (l : List UInt8) (hl : Asc l) (r : Nat) (h1 : 128 ≤ r) (h2 : r ≤ 1114111) (h3 : r < 55296 ∨ 57343 < r) (w : World) :
    Calls Tryz.prog 43 #[.string (ba l), .int .i32 (r : Int)] w fun e w' => e = .returned (.int .i64 (-1)) ∧ Below w.heap.size w w' := by
  by_cases hb : r = 65533
  · subst hb
    exact indexRune_bad l hl w
  · obtain ⟨t, ht, t1, t2, t3⟩ := enc_high r h1 h2 h3
    have HV := Lib.hid (Tryz.utf8_ValidRune (r : Int))
    have HVT := Lib.hid (show Lib.validRune (r : Int) = true by unfold Lib.validRune; simp; omega)
    obtain ⟨ri, hri⟩ : ∃ x : Int, (r : Int) = x := ⟨_, rfl⟩
    have r1 : 128 ≤ ri := by omega
    have r2 : ri ≤ 1114111 := by omega
    have g1 : (ri == 65533) = false := by simp; omega
    rw [hri] at ht HV HVT
    obtain ⟨q, hq⟩ : ∃ q, t.length = q + 1 := ⟨t.length - 1, by omega⟩
    have hq1 : 1 ≤ q := by omega
    have hq2 : q ≤ 3 := by omega
    have hql : q < l.length := by have := hl.1; omega
    have hqt : q < t.length := by omega
    have hx := hl.2.2 l[q] (List.getElem_mem hql)
    have hy := t3 t[q] (List.getElem_mem hqt)
    obtain ⟨n, hn⟩ : ∃ n, l.length = n := ⟨_, rfl⟩
    have HI := Lib.hid (fun W => Tryz.strings_IndexByte (ba (l.drop (q + 1))) (t[q].toNat : Int) W)
    have HNO := Lib.hid (show Lib.indexByte (ba (l.drop (q + 1))).data.toList ((t[q].toNat : Int).toNat.toUInt8) = -1 by
      rw [ba_list]
      have : ((t[q].toNat : Int)).toNat.toUInt8 = t[q] := by simp
      rw [this]
      refine indexByte_not fun hm => ?_
      have := hl.2.2 _ (List.mem_of_mem_drop hm)
      omega)
    have HD := Lib.hid (ba_drop l (q + 1))
    obtain ⟨s, hs⟩ : ∃ s, ba l = s := ⟨_, rfl⟩
    obtain ⟨u, hu⟩ : ∃ u, ba t = u := ⟨_, rfl⟩
    have hs1 : (s.size : Int) = n := by rw [← hs, ba_size, hn]
    have hu1 : (u.size : Int) = (q : Int) + 1 := by rw [← hu, ba_size, hq]; rfl
    have hqs : q < s.size := by rw [← hs, ba_size]; exact hql
    have hqu : q < u.size := by rw [← hu, ba_size]; exact hqt
    have gs : s[q] = l[q] := by subst hs; rfl
    have gu : u[q] = t[q] := by subst hu; rfl
    obtain ⟨x, hxx⟩ : ∃ x : Int, ((s[q]).toNat : Int) = x := ⟨_, rfl⟩
    obtain ⟨y, hyy⟩ : ∃ y : Int, ((u[q]).toNat : Int) = y := ⟨_, rfl⟩
    rw [← gs] at hx
    rw [← gu] at hy HI HNO
    rw [hyy] at HI HNO
    rw [hs] at HD ⊢
    rw [hu] at ht
    have hne : (x == y) = false := by simp; omega
    have hne2 : (x != y) = true := by simp; omega
    have q0 : (0 : Int) ≤ (q : Int) := by omega
    have q3 : (q : Int) < (n : Int) := by omega
    have q4 : (q : Int) + 1 ≤ (n : Int) := by omega
    have HQ := Lib.hid hqs
    have HS := Lib.hid hs1
    rw [hri]
    have HI2 := Lib.hid (show ∀ W, Calls Tryz.prog 41 #[.string (s.extract (q + 1) s.size), .int .u8 y] W fun e w' => e = .returned (.int .i64 (-1)) ∧ w' = W from fun W => by
      rw [HD.out, ← HNO.out]
      exact HI.out W)
    clear HI HNO HD
    clear hs hu hl t1 t2 t3 h1 h2 h3 hb gs gu hq hqt hx hy hri hn
    go_enter Tryz.func43, Tryz.ntmps43
    go_wp2_with fail
    refine (HV.out w).mono ?_
    rintro e w1 ⟨rfl, rfl⟩
    rw [HVT.out]
    go_wp2
    go_step3
    go_wp2
    go_loop [9, 10, 11, 12] (fun i f o j => ∃ x y : Value, o = x ∧ j = y ∧ i = .int .i64 (q : Int) ∧ f = .int .i64 0) (fun _ _ _ _ => 0)
    case atStart => exact ⟨_, _, rfl, rfl, rfl, rfl⟩
    case round =>
      obtain ⟨o, j, rfl, rfl, rfl, rfl⟩ := hrel
      go_wp2
      go_step3
      go_wp2
      go_quiet (fail)
      go_wp2
      obtain ⟨w2, hw2⟩ : ∃ w2, w1.drewN nq = w2 := ⟨_, rfl⟩
      have HW := Lib.hid hw2
      rw [hw2]
      clear hw2
      go_quiet ((go_at_call 41; exact Calls.quiet_of_same (HI2.out _)))
      go_wp2
      rw [Exit.noGoto_ret]
      simp +zetaDelta only [Exit.inBlock, Exit.then, Exit.noGoto_ret]
      go_ret
      exact ⟨rfl, by rw [← HW.out]; exact ⟨rfl, rfl, rfl, Nat.le_refl _, fun _ _ => rfl⟩⟩
/-- strings.IndexRune in an ASCII string, of whatever rune a decoder hands out. -/
def runeIdx (l : List UInt8) (r : Nat) : Int := if r < 128 then Lib.indexByte l r.toUInt8 else -1
theorem indexRune_any (l : List UInt8) (hl : Asc l) (r : Nat) (h2 : r ≤ 1114111) (h3 : r < 55296 ∨ 57343 < r) (w : World) :
    Calls Tryz.prog 43 #[.string (ba l), .int .i32 (r : Int)] w fun e w' => e = .returned (.int .i64 (runeIdx l r)) ∧ Below w.heap.size w w' := by
  unfold runeIdx
  by_cases h : r < 128
  · rw [if_pos h]
    refine (Tryz.strings_IndexRune_ascii (ba l) (r : Int) w (by omega) (by omega)).mono ?_
    rintro e w' ⟨rfl, rfl⟩
    exact ⟨rfl, Below.refl _ _⟩
  · rw [if_neg h]
    exact indexRune_high l hl r (by omega) h2 h3 w
theorem uN_valid (l : List UInt8) (h : l ≠ []) : (uN l).1 ≤ 1114111 ∧ ((uN l).1 < 55296 ∨ 57343 < (uN l).1) := by
  have := bt_lt l 0; have := bt_lt l 1
  rcases uN_cases l h with h1 | h1 | h1 | h1 <;> omega
theorem uN_byte {l : List UInt8} {k : Nat} (hk : k < l.length) (h : (uN (l.drop k)).1 < 128) : (uN (l.drop k)).1 = l[k].toNat ∧ (uN (l.drop k)).2 = 1 := by
  have hne : l.drop k ≠ [] := by intro e; have := congrArg List.length e; rw [List.length_drop] at this; simp at this; omega
  have hb : bt (l.drop k) 0 = l[k].toNat := by
    unfold bt
    rw [List.drop_eq_getElem_cons hk]
    rfl
  rcases uN_cases _ hne with h1 | h1 | h1 | h1 <;> rw [hb] at h1 <;> omega
/-- A unit that is no ASCII byte: each of its bytes is beyond ASCII. -/
theorem uN_far {l : List UInt8} {k : Nat} (hk : k < l.length) (h : 128 ≤ (uN (l.drop k)).1) : ∀ j (hj : j < l.length), k ≤ j → j < k + (uN (l.drop k)).2 → 128 ≤ l[j].toNat := by
  have hne : l.drop k ≠ [] := by intro e; have := congrArg List.length e; rw [List.length_drop] at this; simp at this; omega
  have hb : ∀ i (hi : k + i < l.length), bt (l.drop k) i = l[k + i].toNat := fun i hi => by
    unfold bt
    rw [List.getD_eq_getElem?_getD, List.getElem?_drop, List.getElem?_eq_getElem hi]
    rfl
  intro j hj h1 h2
  obtain ⟨i, rfl⟩ : ∃ i, j = k + i := ⟨j - k, by omega⟩
  have e := hb i hj
  rw [← e]
  rcases uN_cases _ hne with h3 | h3 | h3 | h3
  · obtain rfl : i = 0 := by omega
    omega
  · rcases (show i = 0 ∨ i = 1 by omega) with rfl | rfl <;> omega
  · rcases (show i = 0 ∨ i = 1 ∨ i = 2 by omega) with rfl | rfl | rfl <;> omega
  · rcases (show i = 0 ∨ i = 1 ∨ i = 2 ∨ i = 3 by omega) with rfl | rfl | rfl | rfl <;> omega
theorem runeIdx_in {l : List UInt8} {r : Nat} (hr : r < 128) : decide (0 ≤ runeIdx l r) = l.contains r.toUInt8 := by
  unfold runeIdx
  rw [if_pos hr, Lib.contains_iff_indexByte]
set_option maxRecDepth 100000 in
set_option maxHeartbeats 4000000 in
theorem indexAny_short (l cs : List UInt8) (hc : Asc cs) (h8 : l.length ≤ 8) (w : World) :
    Calls Tryz.prog 26 #[.string (ba l), .string (ba cs)] w fun e w' => e = .returned (.int .i64 (Lib.indexAny l cs)) ∧ Below w.heap.size w w' := by
  have HC := Lib.hid hc
  have hsz : (ba l).size = l.length := ba_size l
  have HSZ := Lib.hid hsz
  have gz : (ba cs).toList.isEmpty = false := by
    rw [ba_toList]
    have := hc.1
    cases cs with
    | nil => simp at this
    | cons a r => rfl
  have g1 : (((ba cs).size : Int) == 1) = false := by rw [ba_size]; have := hc.1; simp; omega
  have HU := Lib.hid (show decide ((8 : Int) < ((ba l).size : Int)) = false from decide_eq_false (by rw [ba_size]; omega))
  have HIR := Lib.hid (indexRune_any cs hc)
  rw [← hsz] at h8
  clear hsz hc
  go_enter Tryz.func26, Tryz.ntmps26
  go_wp2_with fail
  refine (Tryz.strings_shouldUseASCIISet _ w).mono ?_
  rintro e w1 ⟨rfl, rfl⟩
  rw [HU.out]
  go_wp2
  go_loopw [9, 10] (fun i c wr => ∃ (x y : Value) (pos : Nat), i = x ∧ c = y ∧ pos ≤ (ba l).size ∧ Hid (Below w1.heap.size w1 wr ∧ wr.heap[w1.heap.size]? = some (.stringIter (ba l) pos) ∧ Lib.NoAny l cs pos)) (fun _ _ wr => (ba l).size - wr.iterPos w1.heap.size)
  case atStart => exact ⟨_, _, 0, rfl, rfl, Nat.zero_le _, Lib.hid ⟨(Below.refl w1.heap.size w1).alloc (Nat.le_refl _) _, (MapKept.heap_alloc w1 (.stringIter (ba l) 0)).1, Lib.NoAny.zero _ _⟩⟩
  case round =>
    obtain ⟨x0, y0, pos, rfl, rfl, hpos, HR⟩ := hrel
    have hit := HR.out.2.1
    have hszr : w1.heap.size < wr.heap.size := heap_lt hit
    by_cases hp : pos < (ba l).size
    · have hnx0 : ∀ ty, (Instr.next (.pointer (some ⟨w1.heap.size, 0, none⟩)) true ty).run Tryz.prog wr = _ := fun ty => Lib.run_next_any_at wr w1.heap.size (ba l) pos ty hit hp
      have hdec : Utf8.decode (ba l) pos = uN (l.drop pos) := uN_at l pos
      have hkl : pos < l.length := by rw [← HSZ.out]; exact hp
      have hne : l.drop pos ≠ [] := by intro e; have := congrArg List.length e; rw [List.length_drop] at this; simp at this; omega
      have HV := Lib.hid (uN_valid _ hne)
      have HB := Lib.hid (@uN_byte l pos hkl)
      have HF := Lib.hid (@uN_far l pos hkl)
      have hup := uN_pos _ hne
      rw [List.length_drop] at hup
      have HUP := Lib.hid hup
      obtain ⟨⟨r, n⟩, hrn⟩ : ∃ q, uN (l.drop pos) = q := ⟨_, rfl⟩
      rw [hrn] at hdec HV HB HF HUP
      rw [hdec] at hnx0
      have hit2 := Lib.iterAt_heap wr w1.heap.size (ba l) pos (pos + n) hit
      have hbw2 := Lib.below_iterAt HR.out.1 (k := w1.heap.size) (by omega) (ba l) (pos + n)
      dsimp only at hnx0
      obtain ⟨W, hW⟩ : ∃ W, wr.iterAt w1.heap.size (ba l) (pos + n) = W := ⟨_, rfl⟩
      rw [hW] at hnx0 hit2 hbw2
      have hnx := hnx0
      have HW := Lib.hid (And.intro hbw2 hit2)
      have HIT := Lib.hid hit
      have HNO := Lib.hid HR.out.2.2
      clear hnx0 hit hit2 hbw2 hrn hdec hup hne hW HR
      obtain ⟨v, hv⟩ : ∃ v, runeIdx cs r = v := ⟨_, rfl⟩
      have HVV := Lib.hid hv
      have HCALL := Lib.hid (HIR.out r HV.out.1 HV.out.2)
      rw [hv] at HCALL
      clear hv
      by_cases hge : 0 ≤ v
      · have HHIT := Lib.hid (show Lib.indexAny l cs = (pos : Int) by
          have hr : r < 128 := by
            by_cases h : r < 128
            · exact h
            · have := HVV.out
              unfold runeIdx at this
              rw [if_neg h] at this
              omega
          have h1 := HB.out hr
          have h2 := runeIdx_in (l := cs) hr
          rw [HVV.out, decide_eq_true hge] at h2
          refine Lib.indexAny_hit HNO.out (List.getElem?_eq_getElem hkl) ?_
          have h3 : r.toUInt8 = l[pos] := by
            have := h1.1
            dsimp only at this
            rw [this]; simp
          rw [← h3]; exact h2.symm)
        go_wp2_with fail
        refine (HCALL.out W).mono ?_
        rintro e w2 ⟨rfl, hb2⟩
        have HB2 := Lib.hid (HW.out.1.trans (hb2.mono HW.out.1.size))
        clear hb2
        go_wp2
        go_ret
        exact ⟨by rw [HHIT.out]; rfl, HB2.out⟩
      · have HNEXT := Lib.hid (show Lib.NoAny l cs (pos + n) from fun j b hj hb => by
          by_cases hjp : j < pos
          · exact HNO.out j b hjp hb
          · obtain ⟨hjl, rfl⟩ := List.getElem?_eq_some_iff.1 hb
            by_cases hr : r < 128
            · have h1 := HB.out hr
              dsimp only at h1
              obtain rfl : j = pos := by omega
              have h2 := runeIdx_in (l := cs) hr
              rw [HVV.out, decide_eq_false hge] at h2
              have h3 : r.toUInt8 = l[j] := by rw [h1.1]; simp
              rw [← h3]; exact h2.symm
            · have h4 := HF.out (by dsimp only; omega) j hjl (by omega) (by dsimp only; omega)
              cases hcn : cs.contains l[j] with
              | false => rfl
              | true =>
                have hm : l[j] ∈ cs := by simpa using hcn
                have := HC.out.2.2 _ hm
                omega)
        have HN1 := Lib.hid HUP.out
        go_wp2_with fail
        refine (HCALL.out W).mono ?_
        rintro e w2 ⟨rfl, hb2⟩
        have HB2 := Lib.hid (HW.out.1.trans (hb2.mono HW.out.1.size))
        have HIT2 := Lib.hid ((hb2.block _ (heap_lt HW.out.2)).trans HW.out.2)
        clear hb2
        go_wp2
        go_roundw
        case rel => exact ⟨_, _, pos + n, rfl, rfl, by have := HUP.out; have := HSZ.out; omega, Lib.hid ⟨HB2.out, HIT2.out, HNEXT.out⟩⟩
        case measure =>
          simp only [World.iterPos, HIT2.out, HIT.out]
          have := HUP.out
          omega
    · have hnx : ∀ ty, (Instr.next (.pointer (some ⟨w1.heap.size, 0, none⟩)) true ty).run Tryz.prog wr = _ := fun ty => Lib.run_next_end_at wr w1.heap.size (ba l) pos ty hit hp
      have HE := Lib.hid (show Lib.indexAny l cs = -1 from Lib.indexAny_none (by
        have := HR.out.2.2
        have e : pos = l.length := by have := HSZ.out; omega
        rw [← e]; exact this))
      have HBB := Lib.hid HR.out.1
      clear hit HR
      go_wp2
      go_ret
      exact ⟨by rw [HE.out]; rfl, HBB.out⟩
theorem indexAny_any (l cs : List UInt8) (hc : Asc cs) (hl : l.length ≤ 1000000000) (w : World) :
    Calls Tryz.prog 26 #[.string (ba l), .string (ba cs)] w fun e w' => e = .returned (.int .i64 (Lib.indexAny l cs)) ∧ Below w.heap.size w w' := by
  by_cases h8 : l.length ≤ 8
  · exact indexAny_short l cs hc h8 w
  · have h1 := hc.1
    have h2 := hc.2.1
    have hz : (Tryz.prog.info? 80).map (fun i => (i.zero, i.size)) = some (some (.agg (Array.replicate 256 (.bool false))), 256) := by kernel_rfl
    refine (Tryz.strings_IndexAny_long (zero_of_info hz).1 (ba l) (ba cs) w (by rw [ba_size]; omega) (by rw [ba_size]; omega) (by rw [ba_size]; omega) (by rw [ba_size]; omega) (fun j b hb => hc.2.2 b (List.mem_of_getElem? hb))).mono ?_
    rintro e w' ⟨rfl, rfl⟩
    exact ⟨rfl, ((Below.refl _ _).alloc (Nat.le_refl _) _).alloc (by simp) _⟩
theorem containsRune_any (l : List UInt8) (hl : Asc l) (r : Nat) (h2 : r ≤ 1114111) (h3 : r < 55296 ∨ 57343 < r) (w : World) :
    Calls Tryz.prog 85 #[.string (ba l), .int .i32 (r : Int)] w fun e w' => e = .returned (.bool (decide (0 ≤ runeIdx l r))) ∧ Below w.heap.size w w' := by
  have HI := Lib.hid (indexRune_any l hl r h2 h3)
  go_enter Tryz.func85, Tryz.ntmps85
  go_wp2_with fail
  refine (HI.out _).mono ?_
  rintro e w1 ⟨rfl, hb⟩
  have HB := Lib.hid hb
  clear hb
  go_wp2
  go_ret
  exact ⟨rfl, HB.out⟩
end Go.Proofs.YtomcdhmcjndioaaGreatDoor
end
section
namespace Go.Proofs.YtomcdhmcjndioaaGreatDoor
open Go.RowKit
set_option linter.unusedVariables false

def decA (a : Nat) (l : List UInt8) : Nat := l.foldl (fun a c => a * 10 + (c.toNat - 48)) a
theorem decA_ge : ∀ (l : List UInt8) (a : Nat), a ≤ decA a l
  | [], a => Nat.le_refl _
  | c :: r, a => by
    have := decA_ge r (a * 10 + (c.toNat - 48))
    show a ≤ decA (a * 10 + (c.toNat - 48)) r
    omega
theorem digitB_nat {c : UInt8} : digitB c = true ↔ 48 ≤ c.toNat ∧ c.toNat ≤ 57 := by
  unfold digitB
  rw [decide_eq_true_iff, UInt8.le_iff_toNat_le, UInt8.le_iff_toNat_le]
  exact Iff.rfl
theorem parse_digits : ∀ (l : List UInt8) (a : Nat), a < 18446744073709551616 → l.all digitB = true →
    (Lib.parseUint10 a l = .ok (decA a l) ∧ decA a l < 18446744073709551616) ∨ (Lib.parseUint10 a l = .range ∧ 18446744073709551616 ≤ decA a l)
  | [], a, h, _ => .inl ⟨rfl, h⟩
  | c :: r, a, h, hd => by
    rw [List.all_cons, Bool.and_eq_true] at hd
    have hc := digitB_nat.1 hd.1
    have hge := decA_ge r (a * 10 + (c.toNat - 48))
    have e : decA a (c :: r) = decA (a * 10 + (c.toNat - 48)) r := rfl
    unfold Lib.parseUint10
    rw [if_pos hc, e]
    by_cases h1 : 1844674407370955162 ≤ a
    · rw [if_pos h1]; exact .inr ⟨rfl, by omega⟩
    · rw [if_neg h1]
      by_cases h2 : 18446744073709551616 ≤ a * 10 + (c.toNat - 48)
      · rw [if_pos h2]; exact .inr ⟨rfl, by omega⟩
      · rw [if_neg h2]; exact parse_digits r _ (by omega) hd.2
/-- The digits behind the sign. -/
def decD (l : List UInt8) : List UInt8 := if l.head? = some 45 then l.drop 1 else l
def decN (l : List UInt8) : Int := if l.head? = some 45 then -(decV (decD l) : Int) else (decV (decD l) : Int)
def canonB (l : List UInt8) : Prop := (decD l).all digitB = true ∧ decD l ≠ [] ∧ ¬ ((decD l).head? = some 48 ∧ l ≠ [48])
instance (l : List UInt8) : Decidable (canonB l) := inferInstanceAs (Decidable (_ ∧ _))
theorem decP_eq (l : List UInt8) (lo hi : Int) : decP l lo hi = if canonB l ∧ lo ≤ decN l ∧ decN l ≤ hi then some (decN l) else none := by
  unfold decP canonB decN decD
  by_cases h : l.head? = some 45
  · simp only [h, if_true]
    by_cases h2 : (l.drop 1).all digitB = true ∧ l.drop 1 ≠ [] ∧ ¬ ((l.drop 1).head? = some 48 ∧ l ≠ [48])
    · simp only [h2, not_false_eq_true, and_self, if_true, true_and, ne_eq]
    · simp only [ne_eq] at h2
      simp only [ne_eq, h2, if_false, false_and]
  · simp only [h, if_false]
    by_cases h2 : l.all digitB = true ∧ l ≠ [] ∧ ¬ (l.head? = some 48 ∧ l ≠ [48])
    · simp only [h2, not_false_eq_true, and_self, if_true, true_and, ne_eq]
    · simp only [ne_eq] at h2
      simp only [ne_eq, h2, if_false, false_and]
/-- What Atoi makes of it. -/
theorem atoi_canon {l : List UInt8} (h : canonB l) : (Lib.atoiAll l = .ok (decN l) ∧ -9223372036854775808 ≤ decN l ∧ decN l ≤ 9223372036854775807) ∨ (Lib.atoiAll l = .range ∧ (decN l < -9223372036854775808 ∨ 9223372036854775807 < decN l)) := by
  obtain ⟨h1, h2, h3⟩ := h
  have hp := parse_digits (decD l) 0 (by omega) h1
  have hm : Lib.parseMag (decD l) = Lib.parseUint10 0 (decD l) := by unfold Lib.parseMag; rw [if_neg h2]
  have hv : decV (decD l) = decA 0 (decD l) := rfl
  rw [← hm, ← hv] at hp
  cases l with
  | nil => exact absurd rfl h2
  | cons c r =>
    by_cases hc : c = 45
    · subst hc
      have e1 : decD (45 :: r) = r := rfl
      have e2 : decN (45 :: r) = -(decV r : Int) := rfl
      rw [e1] at hp
      rw [e2]
      unfold Lib.atoiAll
      have t2 : (45 : UInt8).toNat = 45 := rfl
      simp only [t2, or_true, if_true]
      rcases hp with ⟨hp, hq⟩ | ⟨hp, hq⟩
      · rw [hp]
        by_cases hb : 9223372036854775808 < decV r
        · refine .inr ⟨by simp [hb], by omega⟩
        · refine .inl ⟨by simp [hb], by omega, by omega⟩
      · rw [hp]
        exact .inr ⟨rfl, by omega⟩
    · have hh : ¬ (c :: r).head? = some 45 := fun e => hc (Option.some.inj e)
      have e1 : decD (c :: r) = c :: r := by unfold decD; rw [if_neg hh]
      have e2 : decN (c :: r) = (decV (c :: r) : Int) := by unfold decN; rw [if_neg hh, e1]
      rw [e1] at hp h1
      rw [e2]
      have hcd := digitB_nat.1 (by rw [List.all_cons, Bool.and_eq_true] at h1; exact h1.1)
      have t1 : ¬ c.toNat = 43 := by omega
      have t2 : ¬ c.toNat = 45 := by omega
      unfold Lib.atoiAll
      simp only [t1, t2, or_self, if_false]
      rcases hp with ⟨hp, hq⟩ | ⟨hp, hq⟩
      · rw [hp]
        by_cases hb : 9223372036854775808 ≤ decV (c :: r)
        · refine .inr ⟨by simp [hb], by omega⟩
        · refine .inl ⟨by simp [hb], by omega, by omega⟩
      · rw [hp]
        exact .inr ⟨rfl, by omega⟩
end Go.Proofs.YtomcdhmcjndioaaGreatDoor
end
section
namespace Go.Proofs.YtomcdhmcjndioaaGreatDoor
open Go.RowKit
set_option linter.unusedVariables false

set_option maxRecDepth 100000 in
set_option maxHeartbeats 4000000 in
theorem rleap_any (y : Nat) (hy : y ≤ 100000) (w : World) : Calls Tryz.prog 168 #[.int .i64 (y : Int)] w fun e w' => e = .returned (.bool (leapQ y)) ∧ Below w.heap.size w w' := by
  go_enter Tryz.func168, Tryz.ntmps168
  go_wp2
  all_goals
    go_ret
    refine ⟨?_, Below.refl _ _⟩
    refine congrArg (fun b => Ending.returned (Value.bool b)) ?_
    rw [Bool.eq_iff_iff]
    unfold leapQ
    simp
    omega
set_option maxRecDepth 100000 in
set_option maxHeartbeats 4000000 in
theorem ryear_any (y : Nat) (hy1 : 1 ≤ y) (hy : y ≤ 100000) (w : World) : Calls Tryz.prog 150 #[.int .i64 (y : Int)] w fun e w' => e = .returned (.int .i64 (yearQ y)) ∧ Below w.heap.size w w' := by
  go_enter Tryz.func150, Tryz.ntmps150
  go_wp2
  go_ret
  refine ⟨?_, Below.refl _ _⟩
  congr 2
set_option maxRecDepth 100000 in
set_option maxHeartbeats 4000000 in
theorem rmonth_any (y m : Nat) (hy1 : 1 ≤ y) (hy : y ≤ 100000) (hm1 : 1 ≤ m) (hm : m ≤ 12) (w : World) : Calls Tryz.prog 149 #[.int .i64 (y : Int), .int .i64 (m : Int)] w fun e w' => e = .returned (.int .i64 (monQ y m : Nat)) ∧ Below w.heap.size w w' := by
  have HLE := Lib.hid (fun W => rleap_any y hy W)
  rcases (show m = 2 ∨ (m = 1 ∨ m = 3 ∨ m = 4 ∨ m = 5 ∨ m = 6 ∨ m = 7 ∨ m = 8 ∨ m = 9 ∨ m = 10 ∨ m = 11 ∨ m = 12) by omega) with h | h
  · subst h
    have hm2 : monQ y 2 = if leapQ y then 29 else 28 := rfl
    obtain ⟨b, hb0⟩ : ∃ b, leapQ y = b := ⟨_, rfl⟩
    rw [hb0] at hm2 HLE
    have HM := Lib.hid hm2
    clear hm2 hb0
    go_enter Tryz.func149, Tryz.ntmps149
    go_wp2_with fail
    refine (HLE.out w).mono ?_
    rintro e w1 ⟨rfl, hb⟩
    have HB := Lib.hid hb
    cases b
    · clear hb HLE
      go_wp2
      go_ret
      refine ⟨?_, HB.out.alloc HB.out.size _⟩
      rw [HM.out]; rfl
    · clear hb HLE
      go_wp2
      go_ret
      refine ⟨?_, HB.out⟩
      rw [HM.out]; rfl
  · rcases h with h | h | h | h | h | h | h | h | h | h | h <;> subst h
    all_goals
      go_enter Tryz.func149, Tryz.ntmps149
      go_wp2
      go_ret
      exact ⟨rfl, (Below.refl _ _).alloc (Nat.le_refl _) _⟩
end Go.Proofs.YtomcdhmcjndioaaGreatDoor
end
