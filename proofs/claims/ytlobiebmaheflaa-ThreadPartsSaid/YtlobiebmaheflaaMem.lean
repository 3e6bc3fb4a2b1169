/- Words for the memory of a set of threads: two maps, nodes, rows of pointers; who owns which block. No condition. -/
import Derived.Test.YtlobiebmaheflaaBase
namespace Go.Proofs.Ytlobiebmaheflaa
open Go.RowKit
set_option linter.unusedVariables false

/-- Outside F the world w' is as w was. -/
structure Off (F : Nat → Prop) (w w' : World) : Prop where
  os : w'.os = w.os
  tape : w'.tape = w.tape
  output : w'.output = w.output
  size : w.heap.size ≤ w'.heap.size
  block : ∀ k, k < w.heap.size → ¬ F k → w'.heap[k]? = w.heap[k]?

namespace Off
variable {F G : Nat → Prop} {a b c w w' : World}
theorem refl (F : Nat → Prop) (w : World) : Off F w w := ⟨rfl, rfl, rfl, Nat.le_refl _, fun _ _ _ => rfl⟩
theorem trans (h : Off F a b) (k : Off F b c) : Off F a c :=
  ⟨k.os.trans h.os, k.tape.trans h.tape, k.output.trans h.output, Nat.le_trans h.size k.size, fun i hi hF => (k.block i (Nat.lt_of_lt_of_le hi h.size) hF).trans (h.block i hi hF)⟩
theorem mono (h : Off F a b) (hF : ∀ k, k < a.heap.size → F k → G k) : Off G a b := ⟨h.os, h.tape, h.output, h.size, fun i hi hn => h.block i hi fun hf => hn (hF i hi hf)⟩
/-- What the second step touches is new or was touched by the first. -/
theorem andThen (h : Off F a b) (k : Off G b c) (hG : ∀ i, i < a.heap.size → G i → F i) : Off F a c :=
  ⟨k.os.trans h.os, k.tape.trans h.tape, k.output.trans h.output, Nat.le_trans h.size k.size, fun i hi hF => (k.block i (Nat.lt_of_lt_of_le hi h.size) fun hg => hF (hG i hi hg)).trans (h.block i hi hF)⟩
theorem alloc (h : Off F a b) (o : Obj) : Off F a (b.alloc o) :=
  h.andThen (G := fun _ => False) ⟨rfl, rfl, rfl, by simp, fun k hk _ => heap_alloc_old b o hk⟩ fun _ _ h => h.elim
theorem setCell (h : Off F a b) {p : Addr} (hp : F p.block ∨ a.heap.size ≤ p.block) (u : Value) : Off F a (b.setCell p u) :=
  h.andThen (G := fun k => k = p.block) ⟨rfl, rfl, rfl, by simp [World.setCell], fun k hk hn => heap_setCell_other b p k u hn⟩ fun i hi e => by subst e; rcases hp with h | h; exact h; omega
theorem drew (h : Off F a b) : Off F a b.drew := ⟨h.os, h.tape, h.output, h.size, h.block⟩
theorem drewN (h : Off F a b) (n : Nat) : Off F a (b.drewN n) := ⟨h.os, h.tape, h.output, h.size, h.block⟩
theorem grown (h : Off F a b) {row : Option Nat} (hg : b.grownBy c row) (hr : ∀ k, row = some k → F k ∨ a.heap.size ≤ k) : Off F a c :=
  h.andThen (G := fun k => row = some k) ⟨hg.os, hg.tape, hg.output, hg.size, fun k hk hn => hg.block k hk fun e => hn e.symm⟩ fun i hi e => by rcases hr i e with h | h; exact h; omega
theorem below {B : Nat} (h : Off F a b) (hB : B ≤ a.heap.size) (hF : ∀ k, F k → B ≤ k) : Below B a b :=
  ⟨h.os, h.tape, h.output, h.size, fun k hk => h.block k (by omega) fun hf => by have := hF k hf; omega⟩
theorem of_below {B : Nat} (h : Below B a b) (hB : ∀ k, k < a.heap.size → B ≤ k → F k) : Off F a b :=
  ⟨h.os, h.tape, h.output, h.size, fun k hk hn => h.block k (by rcases Nat.lt_or_ge k B with h | h; exact h; exact absurd (hB k hk h) hn)⟩
end Off

/-- Who owns a block: 0 nobody of the set; 1 the header, 2 and 3 the maps, 4 a node, 5 the row of a node's group, 6 the row of a tie, 7 the row of a node's ties. -/
structure Tag where
  kind : Nat
  node : Nat
  tie : Option Tie
def tOut : Tag := ⟨0, 0, none⟩
def tHd : Tag := ⟨1, 0, none⟩
def tNodes : Tag := ⟨2, 0, none⟩
def tTies : Tag := ⟨3, 0, none⟩
def tNode : Tag := ⟨4, 0, none⟩
def tGrp (g : Nat) : Tag := ⟨5, g, none⟩
def tTie (k : Tie) : Tag := ⟨6, 0, some k⟩
def tOwn (g : Nat) : Tag := ⟨7, g, none⟩
/-- The set's blocks. -/
def Of (tag : Nat → Tag) (b : Nat) : Prop := tag b ≠ tOut
/-- The set's blocks that may turn: all but the rows of the nodes' ties. -/
def Mut (tag : Nat → Tag) (b : Nat) : Prop := tag b ≠ tOut ∧ (tag b).kind ≠ 7
/-- Nobody of the set owns what has not been made. -/
def Fresh (w : World) (tag : Nat → Tag) : Prop := ∀ b, w.heap.size ≤ b → tag b = tOut

def ptr (g : Nat) : Value := .pointer (some ⟨g, 0, none⟩)
def tieVal (k : Tie) : Value := .agg #[.string k.1, .string k.2]
def tieCells (k : Tie) : List Value := [.string k.1, .string k.2]
/-- A string of Go is no longer than this. -/
def Fits (s : ByteArray) : Prop := s.size ≤ maxLen
def TieFits (k : Tie) : Prop := Fits k.1 ∧ Fits k.2

/-- The slice value v owns pointers to the nodes l, in a row of its own. -/
def PtrRow (w : World) (tag : Nat → Tag) (t : Tag) (v : Value) (l : List Nat) : Prop := w.ownsRow 0 59 1 v l.length (l.map ptr) ∧ ∀ b, v.ownBlock = some b → tag b = t
def TieRow (w : World) (tag : Nat → Tag) (t : Tag) (v : Value) (l : List Tie) : Prop := w.ownsRow 0 72 2 v l.length (l.flatMap tieCells) ∧ ∀ b, v.ownBlock = some b → tag b = t

theorem ownsRow_block {w w' : World} {base : Nat} {e : TypeId} {size : Nat} {v : Value} {n : Nat} {xs : List Value} (h : w.ownsRow base e size v n xs) (hb : ∀ b, v.ownBlock = some b → w'.heap[b]? = w.heap[b]?) : w'.ownsRow base e size v n xs := by
  refine ⟨h.1, ?_⟩
  rcases h.2 with hn | ⟨g, cap, cur, rfl, hbb, hg, rest⟩
  · exact .inl hn
  · exact .inr ⟨g, cap, cur, rfl, hbb, (hb g rfl).trans hg, rest⟩
theorem ownsMap_block {H : Type} {P : Program} {k : TypeId} {R : Value → Option (DataW H × List MemPlace)} {w w' : World} {b n : Nat} {D : DataW H} (h : w.ownsMap P k R b n D) (hb : w'.heap[b]? = w.heap[b]?) : w'.ownsMap P k R b n D := by
  obtain ⟨es, clock, h1, h2⟩ := h
  exact ⟨es, clock, hb.trans h1, h2⟩
theorem PtrRow.keep {w w' : World} {tag tag' : Nat → Tag} {t : Tag} {v : Value} {l : List Nat} (h : PtrRow w tag t v l) (hb : ∀ b, tag b = t → b < w.heap.size → w'.heap[b]? = w.heap[b]? ∧ tag' b = t) : PtrRow w' tag' t v l :=
  ⟨ownsRow_block h.1 fun b e => (hb b (h.2 b e) (h.1.lt b e).2).1, fun b e => (hb b (h.2 b e) (h.1.lt b e).2).2⟩
theorem TieRow.keep {w w' : World} {tag tag' : Nat → Tag} {t : Tag} {v : Value} {l : List Tie} (h : TieRow w tag t v l) (hb : ∀ b, tag b = t → b < w.heap.size → w'.heap[b]? = w.heap[b]? ∧ tag' b = t) : TieRow w' tag' t v l :=
  ⟨ownsRow_block h.1 fun b e => (hb b (h.2 b e) (h.1.lt b e).2).1, fun b e => (hb b (h.2 b e) (h.1.lt b e).2).2⟩

/-- Elements of a map are read as they are. -/
def asIs (v : Value) : Option (DataW Value × List MemPlace) := some (.held v, [])

theorem Try.laidOut : laidOutB Try.prog = true := by kernel_rfl
theorem row72 : (72 : TypeId) < Try.prog.types.size := of_decide_eq_true (by kernel_rfl)
theorem keyType72 : Try.prog.keyTypeAt 3 72 = true := by kernel_rfl
theorem tieLaw : WideMaps.KeyLaw Try.prog 72 := deep_law_laid Try.laidOut (m := 3) (by omega) row72 keyType72 (by rw [Try.underlying72])
theorem tieKeyed : Maps.Keyed Try.prog 72 := .of_law tieLaw
theorem intKeyed : Maps.Keyed Try.prog 3 := Maps.int_keyed Try.underlying3
noncomputable def tieKey (k : Tie) : Lit := (keyOf Try.prog 72 (tieVal k)).getD (.bool false)
theorem cells72 : Try.prog.cellsOf 72 = 2 := by kernel_rfl
theorem cells9 : Try.prog.cellsOf 9 = 1 := by kernel_rfl
theorem keyType72' : Try.prog.keyType 72 = true := by kernel_rfl
theorem types_size : ∃ n, Try.prog.types.size + 1 = n + 2 := ⟨Try.prog.types.size - 1, by have : (72 : Nat) < Try.prog.types.size := row72; omega⟩
theorem keyLits72 (n : Nat) (k : Tie) (h : TieFits k) : Try.prog.keyLits (n + 2) 72 [.string k.1, .string k.2] = some [.string k.1.data.toList, .string k.2.data.toList] := by
  have h1 : k.1.size ≤ maxLen := h.1
  have h2 : k.2.size ≤ maxLen := h.2
  simp [Program.keyLits, Try.underlying72, Try.underlying9, cells72, cells9, h1, h2]
theorem tieKey_of {k : Tie} (h : TieFits k) : keyOf Try.prog 72 (tieVal k) = some (tieKey k) := by
  have : ∃ l, keyOf Try.prog 72 (tieVal k) = some l := by
    obtain ⟨n, hn⟩ := types_size
    have hf : (tieVal k).formed Try.prog 72 = true := by simp [tieVal, Value.formed, Try.underlying72, cells72]
    have hc : (tieVal k).cells.toList = [.string k.1, .string k.2] := rfl
    unfold keyOf
    rw [Try.underlying72]
    simp only [keyType72', hf, hn, hc, keyLits72 n k h]
    exact ⟨_, rfl⟩
  obtain ⟨l, hl⟩ := this
  unfold tieKey
  rw [hl]; rfl
theorem tieKey_inj {k k' : Tie} (h : TieFits k) (h' : TieFits k') (e : tieKey k = tieKey k') : k = k' := by
  have := tieLaw.inj (tieKey_of h) (by rw [e]; exact tieKey_of h')
  simp only [tieVal, Value.agg.injEq] at this
  have h3 : [Value.string k.1, Value.string k.2] = [Value.string k'.1, Value.string k'.2] := congrArg Array.toList this
  simp only [List.cons.injEq, Value.string.injEq, and_true] at h3
  exact Prod.ext h3.1 h3.2

attribute [irreducible] tieKey
theorem tieKey_isKey {k : Tie} (h : TieFits k) : WideAt.IsKeyLit (tieKey k) := by
  have h1 := tieKey_of h
  generalize tieKey k = l at h1 ⊢
  exact tieKeyed.key h1
/-- Block N is the map of the nodes: number i leads to the node nm i. -/
def NodesMap (w : World) (N : Nat) (nm : Int → Option Nat) (c : Nat) : Prop :=
  ∃ D, w.ownsMap Try.prog 3 asIs N c D ∧ ∀ i, (Lit.int .i64 i).wf = true → ∀ z, D.atKey (.int .i64 i) z = match nm i with | some g => .held (ptr g) | none => z
/-- Block T is the map of the ties: k leads to the slice tv k. -/
def TiesMap (w : World) (T : Nat) (tv : Tie → Value) (c : Nat) : Prop :=
  ∃ D, w.ownsMap Try.prog 72 asIs T c D ∧ ∀ k, TieFits k → D.atKey (tieKey k) (.held (.slice none 0 0)) = .held (tv k)

theorem zero59 (w : World) : (zeroValue 59).run Try.prog w = .ok (.pointer none) w := by kernel_rfl
theorem zero62 (w : World) : (zeroValue 62).run Try.prog w = .ok (.slice none 0 0) w := by kernel_rfl
def nodeOr (o : Option Nat) : Value := match o with | some g => ptr g | none => .pointer none

section
variable {w w' : World} {N T c : Nat} {nm : Int → Option Nat} {tv : Tie → Value}
theorem NodesMap.keep (h : NodesMap w N nm c) (hb : w'.heap[N]? = w.heap[N]?) : NodesMap w' N nm c := by
  obtain ⟨D, h1, h2⟩ := h; exact ⟨D, ownsMap_block h1 hb, h2⟩
theorem TiesMap.keep (h : TiesMap w T tv c) (hb : w'.heap[T]? = w.heap[T]?) : TiesMap w' T tv c := by
  obtain ⟨D, h1, h2⟩ := h; exact ⟨D, ownsMap_block h1 hb, h2⟩
theorem NodesMap.mono (h : NodesMap w N nm c) {c' : Nat} (hc : c ≤ c') : NodesMap w N nm c' := by
  obtain ⟨D, h1, h2⟩ := h; exact ⟨D, h1.mono hc, h2⟩
theorem TiesMap.mono (h : TiesMap w T tv c) {c' : Nat} (hc : c ≤ c') : TiesMap w T tv c' := by
  obtain ⟨D, h1, h2⟩ := h; exact ⟨D, h1.mono hc, h2⟩
theorem NodesMap.lt (h : NodesMap w N nm c) : N < w.heap.size := by obtain ⟨D, h1, _⟩ := h; exact h1.lt
theorem TiesMap.lt (h : TiesMap w T tv c) : T < w.heap.size := by obtain ⟨D, h1, _⟩ := h; exact h1.lt
theorem NodesMap.made (w : World) : NodesMap (w.alloc (.map #[] 0)) w.heap.size (fun _ => none) 0 := ⟨_, World.ownsMap_made _ _ _ _, fun _ _ _ => rfl⟩
theorem TiesMap.made (w : World) : TiesMap (w.alloc (.map #[] 0)) w.heap.size (fun _ => .slice none 0 0) 0 := ⟨_, World.ownsMap_made _ _ _ _, fun _ _ => rfl⟩
theorem NodesMap.look (h : NodesMap w N nm c) {i : Int} (hi : (Lit.int .i64 i).wf = true) : (Instr.lookup 49 (.map (some N)) (.int .i64 i) false).run Try.prog w = .ok (nodeOr (nm i)) w := by
  obtain ⟨D, h1, h2⟩ := h
  obtain ⟨v, ps, hrun, hv⟩ := h1.lookup intKeyed Try.underlying49 (zero59 w) (zd := .held (.pointer none)) (zp := []) rfl (Maps.keyOf_int_mk Try.underlying3 hi)
  rw [h2 i hi] at hv
  rw [hrun]
  unfold asIs at hv
  unfold nodeOr
  cases hn : nm i with
  | none => rw [hn] at hv; simp only [Option.some.injEq, Prod.mk.injEq, DataW.held.injEq] at hv; rw [hv.1]
  | some g => rw [hn] at hv; simp only [Option.some.injEq, Prod.mk.injEq, DataW.held.injEq] at hv; rw [hv.1]
theorem TiesMap.look (h : TiesMap w T tv c) {k : Tie} (hk : TieFits k) : (Instr.lookup 50 (.map (some T)) (tieVal k) false).run Try.prog w = .ok (tv k) w := by
  obtain ⟨D, h1, h2⟩ := h
  obtain ⟨v, ps, hrun, hv⟩ := h1.lookup tieKeyed Try.underlying50 (zero62 w) (zd := .held (.slice none 0 0)) (zp := []) rfl (tieKey_of hk)
  rw [h2 k hk] at hv
  rw [hrun]
  unfold asIs at hv
  simp only [Option.some.injEq, Prod.mk.injEq, DataW.held.injEq] at hv; rw [hv.1]
theorem NodesMap.put (h : NodesMap w N nm c) (hc : c < maxLen) {i : Int} (hi : (Lit.int .i64 i).wf = true) (g : Nat) :
    ∃ w', (Instr.mapUpdate 49 (.map (some N)) (.int .i64 i) (ptr g)).run Try.prog w = .ok () w' ∧ NodesMap w' N (upd nm i (some g)) (c + 1) ∧ w.grownBy w' (some N) := by
  obtain ⟨D, h1, h2⟩ := h
  have hm := h1.isMap
  obtain ⟨w', hrun, ho, hg⟩ := h1.update intKeyed Try.underlying49 hc (d := .held (ptr g)) (ps := []) (Maps.keyOf_int_mk Try.underlying3 hi) (val := ptr g) rfl
  refine ⟨w', hrun, ⟨_, ho, fun j hj z => ?_⟩, hg⟩
  by_cases e : j = i
  · subst e
    rw [upd_same, Maps.atKey_put_same hm (intKeyed.key (Maps.keyOf_int_mk Try.underlying3 hi))]
  · rw [upd_other _ _ e, Maps.atKey_put_other (by simpa using e), h2 j hj]
theorem NodesMap.len (h : NodesMap w N nm c) (ty : TypeId) : ∃ sz : Nat, (Builtin.len_ #[49] ty #[.map (some N)]).run Try.prog w = .ok (.int .i64 sz) w ∧ sz ≤ c := by
  obtain ⟨D, h1, _⟩ := h
  exact ⟨_, h1.len Try.underlying49 ty, h1.size_le⟩
theorem NodesMap.strike (h : NodesMap w N nm c) {i : Int} (hi : (Lit.int .i64 i).wf = true) (ty : TypeId) :
    ∃ w', (Builtin.delete_ #[49, 3] ty #[.map (some N), .int .i64 i]).run Try.prog w = .ok (.tuple #[]) w' ∧ NodesMap w' N (upd nm i none) c ∧ w.grownBy w' (some N) := by
  obtain ⟨D, h1, h2⟩ := h
  obtain ⟨w', hrun, ho, hg⟩ := h1.drop intKeyed Try.underlying49 (Maps.keyOf_int_mk Try.underlying3 hi) ty
  refine ⟨w', hrun, ⟨_, ho, fun j hj z => ?_⟩, hg.grown⟩
  by_cases e : j = i
  · subst e
    rw [upd_same, Maps.atKey_del_same]
  · rw [upd_other _ _ e, Maps.atKey_del_other (by simpa using e), h2 j hj]
theorem TiesMap.strike (h : TiesMap w T tv c) {k : Tie} (hk : TieFits k) (ty : TypeId) :
    ∃ w', (Builtin.delete_ #[50, 72] ty #[.map (some T), tieVal k]).run Try.prog w = .ok (.tuple #[]) w' ∧ TiesMap w' T (upd tv k (.slice none 0 0)) c ∧ w.grownBy w' (some T) := by
  obtain ⟨D, h1, h2⟩ := h
  obtain ⟨w', hrun, ho, hg⟩ := h1.drop tieKeyed Try.underlying50 (tieKey_of hk) ty
  refine ⟨w', hrun, ⟨_, ho, fun j hj => ?_⟩, hg.grown⟩
  by_cases e : j = k
  · subst e
    rw [upd_same, Maps.atKey_del_same]
  · rw [upd_other _ _ e, Maps.atKey_del_other (fun e1 => e (tieKey_inj hj hk e1)), h2 j hj]
/-- 'm[k] = append(m[k], ..)': the entry, then the store into it. -/
theorem TiesMap.entry (h : TiesMap w T tv c) (hc : c < maxLen) {k : Tie} (hk : TieFits k) :
    ∃ st w1 o1, (Instr.mapEntry 50 (.map (some T)) (tieVal k)).run Try.prog w = .ok (.tuple #[tv k, goInt (st : Nat)]) w1 ∧ w.grownBy w1 (some T) ∧ w1.heap.size = w.heap.size ∧ w1.heap[T]? = some o1 ∧
      ∀ w2 val, w2.heap[T]? = some o1 → ∃ w3, (Instr.entryStore 50 (.map (some T)) (goInt (st : Nat)) val).run Try.prog w2 = .ok () w3 ∧ w2.grownBy w3 (some T) ∧ w3.heap.size = w2.heap.size ∧ TiesMap w3 T (upd tv k val) (c + 1) := by
  have hkl := tieKey_isKey hk
  obtain ⟨D, h1, h2⟩ := h
  have h1' := h1
  obtain ⟨es, clock, hb, F, hs, rfl⟩ := h1
  obtain ⟨v0, st, es1, clock1, hrun, hv0, hst⟩ := WideElems.entry_then_store tieLaw Try.underlying50 zero62 hb F (tieKey_of hk)
  have hgr : ∀ (W : World) (o : Obj) {e0 : Array MapEntry} {c0 : Nat}, W.heap[T]? = some (.map e0 c0) → W.grownBy (ChangeMaps.setBlock W T o) (some T) ∧ (ChangeMaps.setBlock W T o).heap.size = W.heap.size ∧ (ChangeMaps.setBlock W T o).heap[T]? = some o := fun W o _ _ hW =>
    ⟨⟨rfl, rfl, rfl, by simp [ChangeMaps.setBlock], fun i _ hi => ChangeMaps.heap_setBlock_other hW _ (fun e => hi (by rw [e]))⟩, by simp [ChangeMaps.setBlock], ChangeMaps.heap_setBlock_same hW _⟩
  have hv : v0 = tv k := by
    have h3 := h2 k hk
    rcases Maps.fit_look false tieKeyed Try.underlying50 (zero62 w) hb F (tieKey_of hk) with ⟨_, hno, hat⟩ | ⟨e0, y, he0, hk0, _, hR, hat, _⟩
    · have h3 := DataW.held.inj ((hat _).symm.trans h3)
      rcases hv0 with ⟨e1, he1, hk1, _⟩ | ⟨_, rfl⟩
      · exact absurd hk1 (hno e1 he1)
      · exact h3
    · unfold asIs at hR
      have hR := Option.some.inj hR
      subst hR
      have h3 := DataW.held.inj ((hat _).symm.trans h3)
      rcases hv0 with ⟨e1, he1, hk1, rfl⟩ | ⟨hno, _⟩
      · have := Go.entry_eq_of_key ((MapKept.stamped_iff es clock).1 F.stamped).2.2 he0 he1 (hk0.trans hk1.symm)
        rw [← h3, this]
      · exact absurd hk0 (hno e0 he0)
  subst hv
  obtain ⟨g1, g2, g3⟩ := hgr w (.map es1 clock1) hb
  refine ⟨st, _, _, hrun, g1, g2, g3, fun w2 val hw2 => ?_⟩
  obtain ⟨es', clock', hr2, hr3⟩ := hst w2 val hw2
  obtain ⟨q1, q2, q3⟩ := hgr w2 (.map es' clock') hw2
  refine ⟨_, hr2, q1, q2, ?_⟩
  obtain ⟨w', hrun', ho, _⟩ := h1'.update tieKeyed Try.underlying50 hc (d := .held val) (ps := []) (tieKey_of hk) (val := val) rfl
  rw [hr3] at hrun'
  obtain ⟨_, hw'⟩ := Result.ok.inj hrun'
  subst hw'
  refine ⟨_, ownsMap_block ho (q3.trans (hgr w (.map es' clock') hb).2.2.symm), fun j hj => ?_⟩
  by_cases e : j = k
  · subst e
    rw [upd_same, Maps.atKey_put_same h1'.isMap hkl]
  · rw [upd_other _ _ e, Maps.atKey_put_other (fun e1 => e (tieKey_inj hj hk e1)), h2 j hj]
end
end Go.Proofs.Ytlobiebmaheflaa
