/- Layer 14: bodies: its contract (printed by gen_bodies. -/
import Derived.Test.YthidbmeaccpjdaaGreatDoorM36
section
namespace Go.Proofs.YthidbmeaccpjdaaGreatDoor
open Go.RowKit
set_option linter.unusedVariables false
open Go.Shelf
attribute [local go_sem] Oper.semAt_some
def BdPost (w : World) (out : List (Nat × Nat)) (e : Ending) (w' : World) : Prop := ∃ v, e = .returned v ∧ OwnPrs w' w.heap.size v (out.map pairI) ∧ Below w.heap.size w w'
def bdW (w : World) (s b : List UInt8) : World := ((((w.alloc (.cells #[.string (ba s)] 9)).alloc (.cells #[.string (ba b)] 9)).alloc (.cells #[.slice none 0 0] 51)).alloc (.cells #[.slice none 0 0] 51)).alloc (.cells #[.int .i64 (-1)] 3)
def bdV (W : World) (s : List UInt8) (i : Nat) : World := (W.alloc (.cells #[.string (ba s)] 9)).alloc (.cells #[.int .i64 (i : Int)] 3)
structure BdIn (w : World) (s b : List UInt8) (i : Nat) (W : World) : Prop where
 st : BdSt w.heap.size s b [] none W
 hs : W.heap[w.heap.size + 5]? = some (.cells #[.string (ba s)] 9 (0, 0))
 hf : W.heap[w.heap.size + 6]? = some (.cells #[.int .i64 (i : Int)] 3 (0, 0))
 sz : W.heap.size = w.heap.size + 7
 bel : Below w.heap.size w W
theorem alloc_at (w : World) (o : Obj) (k : Nat) : (w.alloc o).heap[k]? = if k = w.heap.size then some o else w.heap[k]? := by
 by_cases h : k = w.heap.size
 ·rw [if_pos h, h]; exact World.alloc_heap_new w o
 ·rw [if_neg h]
  rcases Nat.lt_or_ge k w.heap.size with h1 | h1
  ·exact Below.heap_alloc _ _ _ h1
  ·rw [Array.getElem?_eq_none (by rw [World.size_alloc]; omega), Array.getElem?_eq_none h1]
theorem bd_in (w : World) (s b : List UInt8) (i : Nat) : BdIn w s b i (bdV (bdW w s b) s i) := by
 refine ⟨⟨?_, ?_, ?_, ⟨.slice none 0 0, ?_, OwnPrs.nil_ _ _⟩, ?_⟩, ?_, ?_, ?_, ?_⟩
 ·unfold bdV bdW; simp only [alloc_at, World.size_alloc, Nat.add_assoc, Nat.reduceAdd]; simp
 ·unfold bdV bdW; simp only [alloc_at, World.size_alloc]; simp
 ·unfold bdV bdW; simp only [alloc_at, World.size_alloc]; simp
 ·unfold bdV bdW; simp only [alloc_at, World.size_alloc]; simp
 ·unfold bdV bdW; simp only [alloc_at, World.size_alloc]; simp [opnI]
 ·unfold bdV bdW; simp only [alloc_at, World.size_alloc]; simp
 ·unfold bdV bdW; simp only [alloc_at, World.size_alloc]; simp
 ·simp [bdV, bdW]
 ·exact (((((((Below.refl _ w).alloc (Nat.le_refl _) _).alloc (by simp) _).alloc (by simp <;> omega) _).alloc (by simp <;> omega) _).alloc (by simp <;> omega) _).alloc (by simp <;> omega) _).alloc (by simp <;> omega) _
theorem keeps2.trans {a b : Nat} {A B C : World} (h : keeps2 a b A B) (k : keeps2 a b B C) : keeps2 a b A C := ⟨k.1.trans h.1, k.2.trans h.2⟩
def BdI (w : World) (s b : List UInt8) (pre : List (LnX s)) (W : World) : Prop := ∃ out o, (∀ r, out ++ bodG s b r o = bodG s b (pre.map LnX.v ++ r) none) ∧ out.length ≤ pre.length ∧ (∀ x, o = some x → x ≤ s.length) ∧ BdSt w.heap.size s b out o W ∧ w.heap.size + 7 ≤ W.heap.size
structure BdEnd (N : Nat) (out : List (Nat × Nat)) (W : World) : Prop where
 ex : ∃ v, W.heap[N + 2]? = some (.cells #[v] 51 (0, 0)) ∧ OwnPrs W (N + 7) v (out.map pairI)
theorem BdEnd.keep {N : Nat} {out : List (Nat × Nat)} {W W' : World} (h : BdEnd N out W) (hk : ∀ k o, W.heap[k]? = some o → o.isCells = true → k ≠ N + 6 → W'.heap[k]? = W.heap[k]?) : BdEnd N out W' := by
 obtain ⟨v, c3, c5⟩ := h.ex
 refine ⟨v, (hk _ _ c3 rfl (by omega)).trans c3, c5.block fun b e => ?_⟩
 obtain ⟨h1, o, h2, h3⟩ := c5.isCells e
 exact hk _ _ h2 h3 (by omega)
def BdX (w : World) (s b : List UInt8) (c : Code) (pre : List (LnX s)) (W : World) : Prop := c = .ret ∧ ∃ out, (∀ r, bodG s b (pre.map LnX.v ++ r) none = out) ∧ BdEnd w.heap.size out W
theorem linesP_len : ∀ l : List UInt8, (linesP l).length ≤ l.length
 | [] => Nat.le_refl _
 | c :: r => by
  have ih := linesP_len r
  unfold linesP
  split
  ·simp; exact ih
  ·cases h : linesP r with
   | nil => simp
   | cons a t => rw [h] at ih; simp at ih ⊢; omega
theorem lnR_len : ∀ (ls : List (List UInt8)) (a : Nat), (lnR ls a).length = ls.length
 | [], _ => rfl
 | _ :: r, _ => by unfold lnR; rw [List.length_cons, List.length_cons, lnR_len r]
theorem lns_len (s : List UInt8) (i : Nat) (hi : i ≤ s.length) : (lnsP s i).length ≤ s.length := by
 unfold lnsP
 rw [lnR_len]
 have := linesP_len (s.drop i)
 rw [List.length_drop] at this
 omega
theorem ba_at {s : List UInt8} {e : Nat} {X : Int} {c : UInt8} (h : e < s.length) (hz : e < (ba s).size) (hX : (((ba s)[e]'hz).toNat : Int) = X) : s[e]? = some c ↔ X = (c.toNat : Int) := by
 rw [ba_get] at hX
 subst hX
 rw [List.getElem?_eq_getElem h]
 constructor
 ·intro h; injection h with h; rw [h]
 ·intro h
  exact congrArg some (UInt8.toNat_inj.1 (by omega))
def kidL (s : List UInt8) (o : Option Nat) (a : Nat) : List (Nat × Nat) := match o with
 | some y => [(y, aheadP s y a)]
 | none => []
section
variable {w W0 W W' : World} {s b : List UInt8} {out : List (Nat × Nat)} {op : Option Nat} {pre : List (LnX s)} {x : LnX s}
theorem bd_eq0 {sh : Bool} (h : ∀ r, out ++ bodG s b r op = bodG s b (pre.map LnX.v ++ r) none) (hq : bndP ((s.take x.v.2).drop x.v.1) b = (false, sh)) (r : List (Nat × Nat)) : out ++ bodG s b r op = bodG s b ((pre ++ [x]).map LnX.v ++ r) none := by
 rw [List.map_append, List.append_assoc, List.map_singleton, List.singleton_append, ← h]
 conv => rhs; unfold bodG
 rw [hq]
 simp
theorem bd_eq1 (h : ∀ r, out ++ bodG s b r op = bodG s b (pre.map LnX.v ++ r) none) (hq : bndP ((s.take x.v.2).drop x.v.1) b = (true, false)) (r : List (Nat × Nat)) : (out ++ kidL s op x.v.1) ++ bodG s b r (some x.v.2) = bodG s b ((pre ++ [x]).map LnX.v ++ r) none := by
 rw [List.map_append, List.append_assoc (pre.map LnX.v), List.map_singleton, List.singleton_append, ← h]
 conv => rhs; unfold bodG
 rw [hq]
 cases op <;> simp [kidL]
theorem bd_eq2 (h : ∀ r, out ++ bodG s b r op = bodG s b (pre.map LnX.v ++ r) none) (hq : bndP ((s.take x.v.2).drop x.v.1) b = (true, true)) (r : List (Nat × Nat)) : bodG s b ((pre ++ [x]).map LnX.v ++ r) none = out ++ kidL s op x.v.1 := by
 rw [List.map_append, List.append_assoc, List.map_singleton, List.singleton_append, ← h]
 conv => lhs; unfold bodG
 rw [hq]
 cases op <;> simp [kidL]
theorem bd_go (hR : RdB w s b W0 out op W') (hz : w.heap.size + 6 < W'.heap.size) (he : ∀ r, out ++ bodG s b r op = bodG s b ((pre ++ [x]).map LnX.v ++ r) none) (hlen : out.length ≤ pre.length + 1) (ho : ∀ y, op = some y → y ≤ s.length) :
  KeepsOthers W0 W' ∧ keeps2 (w.heap.size + 6) (w.heap.size + 5) W0 W' ∧ BdI w s b (pre ++ [x]) W' ∧ Below w.heap.size w W' :=
 ⟨hR.ko, hR.kp, ⟨out, op, he, by rw [List.length_append]; exact hlen, ho, hR.st, hz⟩, hR.bel⟩
theorem bd_end (hR : RdB w s b W0 out op W') {v : Value} (hv : W'.heap[w.heap.size + 3]? = some (.cells #[v] 51 (0, 0))) (ho : OwnPrs W' (w.heap.size + 7) v (out.map pairI)) : KeepsOthers W0 (W'.setCell ⟨w.heap.size + 2, 0, none⟩ v) ∧ BdEnd w.heap.size out (W'.setCell ⟨w.heap.size + 2, 0, none⟩ v) ∧ Below w.heap.size w (W'.setCell ⟨w.heap.size + 2, 0, none⟩ v) :=
 ⟨hR.ko.trans (KeepsOthers.setCell _ _ _), ⟨v, Lib.heap_setCell_same (i := 0) hR.st.cr _, ho.set (by omega)⟩, hR.bel.setCell (p := ⟨w.heap.size + 2, 0, none⟩) (by simp) _⟩
theorem bd_ret (hR : RdB w s b W0 out op W') {v : Value} (hv : W'.heap[w.heap.size + 3]? = some (.cells #[v] 51 (0, 0))) (ho : OwnPrs W' (w.heap.size + 7) v (out.map pairI)) (he : ∀ r, bodG s b ((pre ++ [x]).map LnX.v ++ r) none = out) :
  KeepsOthers W0 (W'.setCell ⟨w.heap.size + 2, 0, none⟩ v) ∧ BdX w s b .ret (pre ++ [x]) (W'.setCell ⟨w.heap.size + 2, 0, none⟩ v) ∧ Below w.heap.size w (W'.setCell ⟨w.heap.size + 2, 0, none⟩ v) :=
 have h := bd_end hR hv ho
 ⟨h.1, ⟨rfl, out, he, h.2.1⟩, h.2.2⟩
end
theorem bd_fin {w W : World} {out : List (Nat × Nat)} {D : Nat} (he : BdEnd w.heap.size out W) (hB : Below w.heap.size w W) (hD : w.heap.size ≤ D) (hK : W.heap[D]? = some (.deferred (some []))) :
  ∃ v, (W.putObj D (.deferred none)).cell? ⟨w.heap.size + 2, 0, none⟩ = some v ∧ OwnPrs (W.putObj D (.deferred none)) w.heap.size v (out.map pairI) ∧ Below w.heap.size w (W.putObj D (.deferred none)) := by
 have h1 := he.keep (W' := W.putObj D (.deferred none)) fun k _ hk hc _ => grownBy_keeps_cells (grownBy_putObj' W D _) (fun r e => by cases e; exact ⟨_, hK, rfl⟩) hk hc
 obtain ⟨v, h2, h3⟩ := h1.ex
 exact ⟨v, cells_at h2 0 rfl, h3.more (by omega), hB.trans (belowK_b (w := w) (Nat.le_refl _) _ D _ _ hD hK rfl rfl)⟩
theorem OwnPrs.sl {W : World} {B : Nat} {v : Value} {ts : List (Int × Int)} (h : OwnPrs W B v ts) : ∃ A n c, v = .slice A n c := by
 obtain ⟨A, c, rfl, _⟩ := h.reads
 exact ⟨A, _, c, rfl⟩
theorem hv6 {N : Nat} {W W' : World} {v u : Value} {ts : List (Int × Int)} (hv : W.heap[N + 3]? = some (.cells #[u] 51 (0, 0))) (hw : OwnPrs W (N + 7) v ts) (hg : W.grownBy W' v.ownBlock) : W'.heap[N + 3]? = some (.cells #[u] 51 (0, 0)) :=
 (hg.block _ (heap_lt hv) (fun e => by have := (hw.isCells e.symm).1; omega)).trans hv
theorem hw6 {N k : Nat} {W W' : World} {v : Value} {ts : List (Int × Int)} (hw : OwnPrs W (N + 7) v ts) (hg : W.grownBy W' v.ownBlock) (hk : k < W.heap.size) (h7 : k < N + 7) : W'.heap[k]? = W.heap[k]? :=
 hg.block _ hk (fun e => by have := (hw.isCells e.symm).1; omega)
theorem wpListIn_pushPr {F : Fence} {n : Nat} {ops : Array Oper} {rest : List Oper} {o : Oper} {a : Act} {W : World} {Q : Exit → Act → World → Prop} {B : Nat} {v : Value} {ts : List (Int × Int)} {x0 x1 : Int} (hT : OwnPrs W B v ts) (hB : B ≤ W.heap.size) (hf : PrOk ((x0, x1) : Int × Int))
  (hlen : ts.length ≤ 1000000000) (hgd : o.guard = none) (s y : Operand) (c : Nat)
  (ho : o.op = .call { callee := .builtin .append, args := #[s, y], argTypes := #[51, 51] }) (hs : a.eval s = v) (hx : a.eval y = .slice (some ⟨W.heap.size, 0, none⟩) 1 c)
  (h : ∀ v' w', OwnPrs w' B v' (ts ++ [(x0, x1)]) → W.grownBy w' v.ownBlock → wpListIn F n Tryz.prog ops Q rest (a.put o.dst v') w') : wpListIn F n Tryz.prog ops Q (o :: rest) a (W.alloc (.cells #[.int .i64 x0, .int .i64 x1] 53)) := by
 refine wpListIn_plain hgd fun K hK' => ?_
 obtain ⟨v', w', hrun, r1, r2⟩ := run_pushPr (x0 := x0) (x1 := x1) hT hB hf hlen c o.type
 unfold Oper.wpIn
 refine ⟨?_, ?_⟩
 ·simp [Oper.about, ho, resolve, Target.leads, Sem.run_pure]
 ·rw [Oper.semAt_plain F _ _ (by rw [ho]; intro c hc'; cases hc')]
  simp [execOp, ho, resolve, invoke, builtin, hs, hx, hrun, Result.andThen]
  exact hK' _ _ (h v' w' r1 r2)
set_option maxRecDepth 100000 in
set_option maxHeartbeats 4000000 in
theorem bodies_any (s b : List UInt8) (i : Nat) (w : World) (hl : s.length ≤ 1000000000) (hb : b.length ≤ 1000000000000000) (hi : i ≤ s.length) :
  Calls Tryz.prog 73 #[.string (ba s), .int .i64 (i : Int), .string (ba b)] w (BdPost w (bodiesP s i b)) := by
 have HLN := Lib.hid (fun W => lines_any s i W)
 have HBD := Lib.hid (bodies_eq s i b hi)
 refine (callsIn_wide (n := 9)).1 ?_
 refine callsIn_of_wp_marks Tryz.func73 rfl trivial ?_ rfl
 simp only [Tryz.ntmps73, List.size_toArray, List.length_cons, List.length_nil, Nat.reduceAdd, Nat.reduceSub, Array.replicate_succ, Array.replicate_zero, List.push_toArray, List.append_toArray, List.nil_append, List.cons_append]
 have HIN := Lib.hid (bd_in w s b i)
 have hs1 : (bdW w s b).heap.size = w.heap.size + 5 := by simp [bdW]
 gi_wp2_with fail
 refine ⟨trivial, ?_⟩
 change CallsIn _ _ _ _ _ (bdW w s b) _
 refine (callsIn_wide.2 (HLN.out (bdW w s b))).mono ?_
 rw [hs1]
 rintro e W2 ⟨rfl, rfl⟩
 have hseq := lines_seq s i (w.heap.size + 6) (w.heap.size + 5) _ hl hi (by omega) HIN.out.hf HIN.out.hs
 obtain ⟨W2, hW2⟩ : ∃ W, bdV (bdW w s b) s i = W := ⟨_, rfl⟩
 rw [hW2] at HIN hseq
 have HSEQ := Lib.hid hseq
 clear hseq HLN
 unfold bdV at hW2
 rw [hW2]
 clear hW2
 simp only [Nat.add_assoc, Nat.reduceAdd]
 gi_wp2
 have hsz := HIN.out.sz
 refine rangeC rfl (by decide) (gf := 193) (lb := #[.pointer (some ⟨w.heap.size + 6, 0, none⟩), .pointer (some ⟨w.heap.size + 5, 0, none⟩)]) rfl trivial (enters_of Tryz.func193 (by kernel_rfl) rfl)
  HSEQ.out keeps2_set keeps2.trans (fun W l o o' hl _ _ _ => ⟨World.putObj_heap_other (by omega), World.putObj_heap_other (by omega)⟩) (Below.refl _ _) (fun _ => rfl)
  (fun pre W => BdI w s b pre W ∧ Below w.heap.size w W)
  (fun cd pre W => BdX w s b cd pre W ∧ Below w.heap.size w W)
  (OwnFrom.and (Own.from (fun p A B row hs hg hr => by obtain ⟨out, o, h1, h2, h3, h4, h5⟩ := hs; exact ⟨out, o, h1, h2, h3, h4.own hg hr, Nat.le_trans h5 hg.size⟩) _) (ownFrom_below (Nat.le_refl _) (by omega)))
  (fun cd => OwnFrom.and (Own.from (fun p A B row hs hg hr => by obtain ⟨h1, out, h2, h3⟩ := hs; exact ⟨h1, out, h2, h3.keep fun k _ hk hc _ => grownBy_keeps_cells hg hr hk hc⟩) _) (ownFrom_below (Nat.le_refl _) (by omega)))
  (fun p A B hs hc => by
   obtain ⟨⟨out, o, h1, h2, h3, h4, h6⟩, h5⟩ := hs
   have h4' := h4.sets hc
   obtain ⟨v, rfl⟩ := hc
   refine ⟨⟨out, o, h1, h2, h3, h4', by rw [World.size_setCell]; exact h6⟩, ?_⟩
   exact h5.setCell (p := ⟨w.heap.size + 6, 0, none⟩) (by simp) _)
  (fun cd p A B hs hc => by
   obtain ⟨⟨h1, out, h2, h3⟩, h5⟩ := hs
   obtain ⟨v, rfl⟩ := hc
   exact ⟨⟨h1, out, h2, h3.keep fun k _ _ _ hne => Go.RowKit.Below.heap_setCell _ _ _ _ hne⟩, h5.setCell (p := ⟨w.heap.size + 6, 0, none⟩) (by simp) _⟩)
  ⟨⟨[], none, fun _ => rfl, Nat.le_refl _, (fun y h => by cases h), HIN.out.st, Nat.le_of_eq HIN.out.sz.symm⟩, HIN.out.bel⟩
  (fun x => { tmps := #[.string (ba s), .int .i64 (i : Int), .string (ba b), .pointer (some ⟨w.heap.size, 0, none⟩), undef, .pointer (some ⟨w.heap.size + 1, 0, none⟩), .pointer (some ⟨w.heap.size + 2, 0, none⟩), .pointer (some ⟨w.heap.size + 3, 0, none⟩), .pointer (some ⟨w.heap.size + 4, 0, none⟩), .int .i64 (x.v.1 : Nat), .int .i64 (x.v.2 : Nat), undef, undef, undef, .string (ba s), .int .i64 (i : Int), .func (.func 193) #[] #[.pointer (some ⟨w.heap.size + 6, 0, none⟩), .pointer (some ⟨w.heap.size + 5, 0, none⟩)], .int .i64 (x.v.1 : Nat), .int .i64 (x.v.2 : Nat), undef, undef, undef, undef, undef, undef, undef, undef, undef, undef, undef, undef, undef, undef, undef, undef, undef, undef, undef, undef, undef, undef, undef, undef, undef, undef, undef, undef, undef, undef, undef, undef, undef, undef, undef, undef, undef, undef, undef, undef, undef, undef, undef, undef, undef, undef, undef, undef, undef, undef, undef, undef, undef, undef, undef, undef, undef], defers := [] }) ?assign ?body ?done ?stop
 case assign =>
  intro l x W K hK
  gi_wp2
  exact hK
 case body =>
  rintro l pre x W0 ⟨⟨out, op, ho1, ho2, ho3, ho4, ho5⟩, hB0⟩ hN
  have hxl := x.le
  have hxs := x.ls
  have hpl : pre.length ≤ 1000000000 := by
   have := lns_len s i hi
   omega
  have HRB := Lib.hid (show RdB w s b W0 out op W0 from ⟨ho4, KeepsOthers.refl _, ⟨rfl, rfl⟩, hB0⟩)
  obtain ⟨⟨is, sh⟩, hq⟩ : ∃ q, bndP ((s.take x.v.2).drop x.v.1) b = q := ⟨_, rfl⟩
  have HR6 := Lib.hid (region6_any s b i l x w W0 (is, sh) hq hl hb (cells_at ho4.cs 0 rfl) (cells_at ho4.cb 0 rfl))
  have HO1 := Lib.hid ho1
  have HO2 := Lib.hid ho2
  have HO3 := Lib.hid ho3
  have HQ := Lib.hid hq
  clear hq ho1 ho2 ho3 ho4 hB0
  gi_wp2
  refine wpIn_mono HR6.out ?_
  rintro e a' W1 ⟨rfl, rfl, hb1⟩
  have HR1 := Lib.hid (HRB.out.below (by omega) hb1)
  have hz7 : w.heap.size + 6 < W1.heap.size := Nat.lt_of_lt_of_le ho5 hb1.size
  clear hb1 HR6
  cases is with
  | false =>
   gi_wp2
   exact bd_go HR1.out hz7 (bd_eq0 HO1.out HQ.out) (Nat.le_succ_of_le HO2.out) HO3.out
  | true =>
   obtain ⟨v, hv3, how⟩ := HR1.out.st.co
   obtain ⟨vA, vn, vc, rfl⟩ := how.sl
   have f4 := cells_free HR1.out.st.cn 0
   have c3 := cells_at hv3 0 (u := .slice vA vn vc) rfl
   have f3 := cells_free hv3 0
   have f2 := cells_free HR1.out.st.cr 0
   have c2 := cells_at HR1.out.st.cr 0 (u := .slice none 0 0) rfl
   have HVV := Lib.hid hv3
   have HOW := Lib.hid how
   clear hv3 how
   cases op with
   | none =>
    have c4 : W1.cell? ⟨w.heap.size + 4, 0, none⟩ = some (.int .i64 (-1)) := cells_at HR1.out.st.cn 0 rfl
    have HK := Lib.hid (show out ++ kidL s none x.v.1 = out from List.append_nil _)
    cases sh with
    | false =>
     have HX := Lib.hid (HR1.out.opn x.v.2)
     have HY := Lib.hid (bd_eq1 HO1.out HQ.out)
     rw [HK.out] at HY
     gi_wp2
     exact bd_go HX.out (by rw [World.size_setCell]; exact hz7) HY.out (Nat.le_succ_of_le HO2.out) (fun z hz => by cases hz; exact hxs)
    | true =>
     have HY := Lib.hid (bd_eq2 HO1.out HQ.out)
     rw [HK.out] at HY
     gi_wp2
     exact bd_ret HR1.out HVV.out HOW.out HY.out
   | some y =>
    have hy := HO3.out y rfl
    have c4 : W1.cell? ⟨w.heap.size + 4, 0, none⟩ = some (.int .i64 ((y : Nat) : Int)) := cells_at HR1.out.st.cn 0 rfl
    have hy0 : ¬ ((y : Nat) : Int) < 0 := by omega
    have HLO := Lib.hid (show (out.map pairI).length ≤ 1000000000 by rw [List.length_map]; have := HO2.out; omega)
    have d0 := cells_at HR1.out.st.cs 0 (u := .string (ba s)) rfl
    obtain ⟨a, ha⟩ : ∃ a, x.v.1 = a := ⟨_, rfl⟩
    have hxs1 : a ≤ s.length := by omega
    by_cases h1 : y < a
    ·obtain ⟨e, he⟩ : ∃ e, a - 1 = e := ⟨_, rfl⟩
     have h1i : ((y : Nat) : Int) < ((a : Nat) : Int) := by omega
     have hsub : ((a : Nat) : Int) - 1 = ((e : Nat) : Int) := by omega
     have hze : e < (ba s).size := by rw [ba_size]; omega
     have hel : e < s.length := by omega
     obtain ⟨X, hX⟩ : ∃ X : Int, (((ba s)[e]'hze).toNat : Int) = X := ⟨_, rfl⟩
     have hXs : s[e]? = some 10 ↔ X = 10 := ba_at hel hze hX
     by_cases h10 : X = 10
     ·have k10 : (X == 10) = true := by rw [h10]; rfl
      have hs10 := hXs.2 h10
      by_cases h2 : y < e
      ·obtain ⟨e2, he2⟩ : ∃ e2, e - 1 = e2 := ⟨_, rfl⟩
       have h2i : ((y : Nat) : Int) < ((e : Nat) : Int) := by omega
       have hsub2 : ((e : Nat) : Int) - 1 = ((e2 : Nat) : Int) := by omega
       have hze2 : e2 < (ba s).size := by rw [ba_size]; omega
       have hel2 : e2 < s.length := by omega
       obtain ⟨X2, hX2⟩ : ∃ X : Int, (((ba s)[e2]'hze2).toNat : Int) = X := ⟨_, rfl⟩
       have hXs2 : s[e2]? = some 13 ↔ X2 = 13 := ba_at hel2 hze2 hX2
       by_cases h13 : X2 = 13
       ·have k13 : (X2 == 13) = true := by rw [h13]; rfl
        have HE := Lib.hid (show aheadP s y a = e2 by rw [aheadP_two h1 (by rw [he]; exact hs10) (by rw [he]; exact h2) (by rw [he, he2]; exact hXs2.2 h13), he, he2])
        clear hXs hXs2 h10 h13 hs10 he he2
        cases sh with
        | false =>
         have HY := Lib.hid (bd_eq1 HO1.out HQ.out)
         unfold kidL at HY
         dsimp only at HY
         rw [ha, HE.out] at HY
         rw [ha]
         have HPK := Lib.hid (show PrOk (((y : Nat) : Int), ((e2 : Nat) : Int)) from ⟨⟨by omega, by omega⟩, ⟨by omega, by omega⟩⟩)
         have HPU := Lib.hid (fun v6 w6 (h1 : OwnPrs w6 (w.heap.size + 7) v6 (out.map pairI ++ [(((y : Nat) : Int), ((e2 : Nat) : Int))])) h2 => HR1.out.push hz7 (v' := v6) (x := (y, e2)) HVV.out HOW.out h1 h2)
         gi_wp2_with (gi_at_builtin; refine wpListIn_pushPr (W := W1) (x0 := ((y : Nat) : Int)) (x1 := ((e2 : Nat) : Int)) HOW.out (by omega) HPK.out HLO.out rfl (.tmp 57) (.tmp 61) 1 rfl rfl (by show Value.slice (some ⟨W1.heap.size, 0, none⟩) 1 1 = _; simp) ?_; intro v6 w6 h1 h2; obtain ⟨A6, n6, c6, rfl⟩ := h1.sl; (have HN6 := Lib.hid (HPU.out _ w6 h1 h2); have HO6 := Lib.hid h1; have H36 := Lib.hid h2.size; have HV6 := Lib.hid (hv6 HVV.out HOW.out h2); have g3 := cells_at HV6.out 0 (u := .slice vA vn vc) rfl; have e3 := cells_free HV6.out 0; have HC2 := Lib.hid (hw6 HOW.out h2 (heap_lt HR1.out.st.cr) (by omega)); have HC4 := Lib.hid (hw6 HOW.out h2 (heap_lt HR1.out.st.cn) (by omega)); have g2 := cells_at (HC2.out.trans HR1.out.st.cr) 0 (u := .slice none 0 0) rfl; have e2 := cells_free (HC2.out.trans HR1.out.st.cr) 0; have g4 := cells_at (HC4.out.trans HR1.out.st.cn) 0 (u := .int .i64 ((y : Nat) : Int)) rfl; have e4 := cells_free (HC4.out.trans HR1.out.st.cn) 0; clear h1 h2))
         exact bd_go (HN6.out.opn x.v.2) (by rw [World.size_setCell, World.size_setCell]; exact Nat.lt_of_lt_of_le hz7 H36.out) HY.out (by rw [List.length_append]; exact Nat.succ_le_succ HO2.out) (fun z hz => by cases hz; exact hxs)
        | true =>
         have HY := Lib.hid (bd_eq2 HO1.out HQ.out)
         unfold kidL at HY
         dsimp only at HY
         rw [ha, HE.out] at HY
         rw [ha]
         have HPK := Lib.hid (show PrOk (((y : Nat) : Int), ((e2 : Nat) : Int)) from ⟨⟨by omega, by omega⟩, ⟨by omega, by omega⟩⟩)
         have HPU := Lib.hid (fun v6 w6 (h1 : OwnPrs w6 (w.heap.size + 7) v6 (out.map pairI ++ [(((y : Nat) : Int), ((e2 : Nat) : Int))])) h2 => HR1.out.push hz7 (v' := v6) (x := (y, e2)) HVV.out HOW.out h1 h2)
         gi_wp2_with (gi_at_builtin; refine wpListIn_pushPr (W := W1) (x0 := ((y : Nat) : Int)) (x1 := ((e2 : Nat) : Int)) HOW.out (by omega) HPK.out HLO.out rfl (.tmp 57) (.tmp 61) 1 rfl rfl (by show Value.slice (some ⟨W1.heap.size, 0, none⟩) 1 1 = _; simp) ?_; intro v6 w6 h1 h2; obtain ⟨A6, n6, c6, rfl⟩ := h1.sl; (have HN6 := Lib.hid (HPU.out _ w6 h1 h2); have HO6 := Lib.hid h1; have H36 := Lib.hid h2.size; have HV6 := Lib.hid (hv6 HVV.out HOW.out h2); have g3 := cells_at HV6.out 0 (u := .slice vA vn vc) rfl; have e3 := cells_free HV6.out 0; have HC2 := Lib.hid (hw6 HOW.out h2 (heap_lt HR1.out.st.cr) (by omega)); have HC4 := Lib.hid (hw6 HOW.out h2 (heap_lt HR1.out.st.cn) (by omega)); have g2 := cells_at (HC2.out.trans HR1.out.st.cr) 0 (u := .slice none 0 0) rfl; have e2 := cells_free (HC2.out.trans HR1.out.st.cr) 0; have g4 := cells_at (HC4.out.trans HR1.out.st.cn) 0 (u := .int .i64 ((y : Nat) : Int)) rfl; have e4 := cells_free (HC4.out.trans HR1.out.st.cn) 0; clear h1 h2))
         exact bd_ret HN6.out (Lib.heap_setCell_same (i := 0) HV6.out _) (by rw [List.map_append]; exact HO6.out.set (by omega)) HY.out
       ·have k13 : (X2 == 13) = false := by simpa using h13
        have HE := Lib.hid (show aheadP s y a = e by rw [aheadP_one2 h1 (by rw [he]; exact hs10) (by rw [he, he2]; exact fun h => h13 (hXs2.1 h)), he])
        clear hXs hXs2 h10 h13 hs10 he he2
        cases sh with
        | false =>
         have HY := Lib.hid (bd_eq1 HO1.out HQ.out)
         unfold kidL at HY
         dsimp only at HY
         rw [ha, HE.out] at HY
         rw [ha]
         have HPK := Lib.hid (show PrOk (((y : Nat) : Int), ((e : Nat) : Int)) from ⟨⟨by omega, by omega⟩, ⟨by omega, by omega⟩⟩)
         have HPU := Lib.hid (fun v6 w6 (h1 : OwnPrs w6 (w.heap.size + 7) v6 (out.map pairI ++ [(((y : Nat) : Int), ((e : Nat) : Int))])) h2 => HR1.out.push hz7 (v' := v6) (x := (y, e)) HVV.out HOW.out h1 h2)
         gi_wp2_with (gi_at_builtin; refine wpListIn_pushPr (W := W1) (x0 := ((y : Nat) : Int)) (x1 := ((e : Nat) : Int)) HOW.out (by omega) HPK.out HLO.out rfl (.tmp 57) (.tmp 61) 1 rfl rfl (by show Value.slice (some ⟨W1.heap.size, 0, none⟩) 1 1 = _; simp) ?_; intro v6 w6 h1 h2; obtain ⟨A6, n6, c6, rfl⟩ := h1.sl; (have HN6 := Lib.hid (HPU.out _ w6 h1 h2); have HO6 := Lib.hid h1; have H36 := Lib.hid h2.size; have HV6 := Lib.hid (hv6 HVV.out HOW.out h2); have g3 := cells_at HV6.out 0 (u := .slice vA vn vc) rfl; have e3 := cells_free HV6.out 0; have HC2 := Lib.hid (hw6 HOW.out h2 (heap_lt HR1.out.st.cr) (by omega)); have HC4 := Lib.hid (hw6 HOW.out h2 (heap_lt HR1.out.st.cn) (by omega)); have g2 := cells_at (HC2.out.trans HR1.out.st.cr) 0 (u := .slice none 0 0) rfl; have e2 := cells_free (HC2.out.trans HR1.out.st.cr) 0; have g4 := cells_at (HC4.out.trans HR1.out.st.cn) 0 (u := .int .i64 ((y : Nat) : Int)) rfl; have e4 := cells_free (HC4.out.trans HR1.out.st.cn) 0; clear h1 h2))
         exact bd_go (HN6.out.opn x.v.2) (by rw [World.size_setCell, World.size_setCell]; exact Nat.lt_of_lt_of_le hz7 H36.out) HY.out (by rw [List.length_append]; exact Nat.succ_le_succ HO2.out) (fun z hz => by cases hz; exact hxs)
        | true =>
         have HY := Lib.hid (bd_eq2 HO1.out HQ.out)
         unfold kidL at HY
         dsimp only at HY
         rw [ha, HE.out] at HY
         rw [ha]
         have HPK := Lib.hid (show PrOk (((y : Nat) : Int), ((e : Nat) : Int)) from ⟨⟨by omega, by omega⟩, ⟨by omega, by omega⟩⟩)
         have HPU := Lib.hid (fun v6 w6 (h1 : OwnPrs w6 (w.heap.size + 7) v6 (out.map pairI ++ [(((y : Nat) : Int), ((e : Nat) : Int))])) h2 => HR1.out.push hz7 (v' := v6) (x := (y, e)) HVV.out HOW.out h1 h2)
         gi_wp2_with (gi_at_builtin; refine wpListIn_pushPr (W := W1) (x0 := ((y : Nat) : Int)) (x1 := ((e : Nat) : Int)) HOW.out (by omega) HPK.out HLO.out rfl (.tmp 57) (.tmp 61) 1 rfl rfl (by show Value.slice (some ⟨W1.heap.size, 0, none⟩) 1 1 = _; simp) ?_; intro v6 w6 h1 h2; obtain ⟨A6, n6, c6, rfl⟩ := h1.sl; (have HN6 := Lib.hid (HPU.out _ w6 h1 h2); have HO6 := Lib.hid h1; have H36 := Lib.hid h2.size; have HV6 := Lib.hid (hv6 HVV.out HOW.out h2); have g3 := cells_at HV6.out 0 (u := .slice vA vn vc) rfl; have e3 := cells_free HV6.out 0; have HC2 := Lib.hid (hw6 HOW.out h2 (heap_lt HR1.out.st.cr) (by omega)); have HC4 := Lib.hid (hw6 HOW.out h2 (heap_lt HR1.out.st.cn) (by omega)); have g2 := cells_at (HC2.out.trans HR1.out.st.cr) 0 (u := .slice none 0 0) rfl; have e2 := cells_free (HC2.out.trans HR1.out.st.cr) 0; have g4 := cells_at (HC4.out.trans HR1.out.st.cn) 0 (u := .int .i64 ((y : Nat) : Int)) rfl; have e4 := cells_free (HC4.out.trans HR1.out.st.cn) 0; clear h1 h2))
         exact bd_ret HN6.out (Lib.heap_setCell_same (i := 0) HV6.out _) (by rw [List.map_append]; exact HO6.out.set (by omega)) HY.out
      ·have h2i : ¬ ((y : Nat) : Int) < ((e : Nat) : Int) := by omega
       have HE := Lib.hid (show aheadP s y a = e by rw [aheadP_one h1 (by rw [he]; exact hs10) (by rw [he]; exact h2), he])
       clear hXs h10 hs10 he
       cases sh with
       | false =>
        have HY := Lib.hid (bd_eq1 HO1.out HQ.out)
        unfold kidL at HY
        dsimp only at HY
        rw [ha, HE.out] at HY
        rw [ha]
        have HPK := Lib.hid (show PrOk (((y : Nat) : Int), ((e : Nat) : Int)) from ⟨⟨by omega, by omega⟩, ⟨by omega, by omega⟩⟩)
        have HPU := Lib.hid (fun v6 w6 (h1 : OwnPrs w6 (w.heap.size + 7) v6 (out.map pairI ++ [(((y : Nat) : Int), ((e : Nat) : Int))])) h2 => HR1.out.push hz7 (v' := v6) (x := (y, e)) HVV.out HOW.out h1 h2)
        gi_wp2_with (gi_at_builtin; refine wpListIn_pushPr (W := W1) (x0 := ((y : Nat) : Int)) (x1 := ((e : Nat) : Int)) HOW.out (by omega) HPK.out HLO.out rfl (.tmp 57) (.tmp 61) 1 rfl rfl (by show Value.slice (some ⟨W1.heap.size, 0, none⟩) 1 1 = _; simp) ?_; intro v6 w6 h1 h2; obtain ⟨A6, n6, c6, rfl⟩ := h1.sl; (have HN6 := Lib.hid (HPU.out _ w6 h1 h2); have HO6 := Lib.hid h1; have H36 := Lib.hid h2.size; have HV6 := Lib.hid (hv6 HVV.out HOW.out h2); have g3 := cells_at HV6.out 0 (u := .slice vA vn vc) rfl; have e3 := cells_free HV6.out 0; have HC2 := Lib.hid (hw6 HOW.out h2 (heap_lt HR1.out.st.cr) (by omega)); have HC4 := Lib.hid (hw6 HOW.out h2 (heap_lt HR1.out.st.cn) (by omega)); have g2 := cells_at (HC2.out.trans HR1.out.st.cr) 0 (u := .slice none 0 0) rfl; have e2 := cells_free (HC2.out.trans HR1.out.st.cr) 0; have g4 := cells_at (HC4.out.trans HR1.out.st.cn) 0 (u := .int .i64 ((y : Nat) : Int)) rfl; have e4 := cells_free (HC4.out.trans HR1.out.st.cn) 0; clear h1 h2))
        exact bd_go (HN6.out.opn x.v.2) (by rw [World.size_setCell, World.size_setCell]; exact Nat.lt_of_lt_of_le hz7 H36.out) HY.out (by rw [List.length_append]; exact Nat.succ_le_succ HO2.out) (fun z hz => by cases hz; exact hxs)
       | true =>
        have HY := Lib.hid (bd_eq2 HO1.out HQ.out)
        unfold kidL at HY
        dsimp only at HY
        rw [ha, HE.out] at HY
        rw [ha]
        have HPK := Lib.hid (show PrOk (((y : Nat) : Int), ((e : Nat) : Int)) from ⟨⟨by omega, by omega⟩, ⟨by omega, by omega⟩⟩)
        have HPU := Lib.hid (fun v6 w6 (h1 : OwnPrs w6 (w.heap.size + 7) v6 (out.map pairI ++ [(((y : Nat) : Int), ((e : Nat) : Int))])) h2 => HR1.out.push hz7 (v' := v6) (x := (y, e)) HVV.out HOW.out h1 h2)
        gi_wp2_with (gi_at_builtin; refine wpListIn_pushPr (W := W1) (x0 := ((y : Nat) : Int)) (x1 := ((e : Nat) : Int)) HOW.out (by omega) HPK.out HLO.out rfl (.tmp 57) (.tmp 61) 1 rfl rfl (by show Value.slice (some ⟨W1.heap.size, 0, none⟩) 1 1 = _; simp) ?_; intro v6 w6 h1 h2; obtain ⟨A6, n6, c6, rfl⟩ := h1.sl; (have HN6 := Lib.hid (HPU.out _ w6 h1 h2); have HO6 := Lib.hid h1; have H36 := Lib.hid h2.size; have HV6 := Lib.hid (hv6 HVV.out HOW.out h2); have g3 := cells_at HV6.out 0 (u := .slice vA vn vc) rfl; have e3 := cells_free HV6.out 0; have HC2 := Lib.hid (hw6 HOW.out h2 (heap_lt HR1.out.st.cr) (by omega)); have HC4 := Lib.hid (hw6 HOW.out h2 (heap_lt HR1.out.st.cn) (by omega)); have g2 := cells_at (HC2.out.trans HR1.out.st.cr) 0 (u := .slice none 0 0) rfl; have e2 := cells_free (HC2.out.trans HR1.out.st.cr) 0; have g4 := cells_at (HC4.out.trans HR1.out.st.cn) 0 (u := .int .i64 ((y : Nat) : Int)) rfl; have e4 := cells_free (HC4.out.trans HR1.out.st.cn) 0; clear h1 h2))
        exact bd_ret HN6.out (Lib.heap_setCell_same (i := 0) HV6.out _) (by rw [List.map_append]; exact HO6.out.set (by omega)) HY.out
     ·have k10 : (X == 10) = false := by simpa using h10
      have HE := Lib.hid (show aheadP s y a = a from aheadP_no2 (by rw [he]; exact fun h => h10 (hXs.1 h)))
      clear hXs h10 he
      cases sh with
      | false =>
       have HY := Lib.hid (bd_eq1 HO1.out HQ.out)
       unfold kidL at HY
       dsimp only at HY
       rw [ha, HE.out] at HY
       rw [ha]
       have HPK := Lib.hid (show PrOk (((y : Nat) : Int), ((a : Nat) : Int)) from ⟨⟨by omega, by omega⟩, ⟨by omega, by omega⟩⟩)
       have HPU := Lib.hid (fun v6 w6 (h1 : OwnPrs w6 (w.heap.size + 7) v6 (out.map pairI ++ [(((y : Nat) : Int), ((a : Nat) : Int))])) h2 => HR1.out.push hz7 (v' := v6) (x := (y, a)) HVV.out HOW.out h1 h2)
       gi_wp2_with (gi_at_builtin; refine wpListIn_pushPr (W := W1) (x0 := ((y : Nat) : Int)) (x1 := ((a : Nat) : Int)) HOW.out (by omega) HPK.out HLO.out rfl (.tmp 57) (.tmp 61) 1 rfl rfl (by show Value.slice (some ⟨W1.heap.size, 0, none⟩) 1 1 = _; simp) ?_; intro v6 w6 h1 h2; obtain ⟨A6, n6, c6, rfl⟩ := h1.sl; (have HN6 := Lib.hid (HPU.out _ w6 h1 h2); have HO6 := Lib.hid h1; have H36 := Lib.hid h2.size; have HV6 := Lib.hid (hv6 HVV.out HOW.out h2); have g3 := cells_at HV6.out 0 (u := .slice vA vn vc) rfl; have e3 := cells_free HV6.out 0; have HC2 := Lib.hid (hw6 HOW.out h2 (heap_lt HR1.out.st.cr) (by omega)); have HC4 := Lib.hid (hw6 HOW.out h2 (heap_lt HR1.out.st.cn) (by omega)); have g2 := cells_at (HC2.out.trans HR1.out.st.cr) 0 (u := .slice none 0 0) rfl; have e2 := cells_free (HC2.out.trans HR1.out.st.cr) 0; have g4 := cells_at (HC4.out.trans HR1.out.st.cn) 0 (u := .int .i64 ((y : Nat) : Int)) rfl; have e4 := cells_free (HC4.out.trans HR1.out.st.cn) 0; clear h1 h2))
       exact bd_go (HN6.out.opn x.v.2) (by rw [World.size_setCell, World.size_setCell]; exact Nat.lt_of_lt_of_le hz7 H36.out) HY.out (by rw [List.length_append]; exact Nat.succ_le_succ HO2.out) (fun z hz => by cases hz; exact hxs)
      | true =>
       have HY := Lib.hid (bd_eq2 HO1.out HQ.out)
       unfold kidL at HY
       dsimp only at HY
       rw [ha, HE.out] at HY
       rw [ha]
       have HPK := Lib.hid (show PrOk (((y : Nat) : Int), ((a : Nat) : Int)) from ⟨⟨by omega, by omega⟩, ⟨by omega, by omega⟩⟩)
       have HPU := Lib.hid (fun v6 w6 (h1 : OwnPrs w6 (w.heap.size + 7) v6 (out.map pairI ++ [(((y : Nat) : Int), ((a : Nat) : Int))])) h2 => HR1.out.push hz7 (v' := v6) (x := (y, a)) HVV.out HOW.out h1 h2)
       gi_wp2_with (gi_at_builtin; refine wpListIn_pushPr (W := W1) (x0 := ((y : Nat) : Int)) (x1 := ((a : Nat) : Int)) HOW.out (by omega) HPK.out HLO.out rfl (.tmp 57) (.tmp 61) 1 rfl rfl (by show Value.slice (some ⟨W1.heap.size, 0, none⟩) 1 1 = _; simp) ?_; intro v6 w6 h1 h2; obtain ⟨A6, n6, c6, rfl⟩ := h1.sl; (have HN6 := Lib.hid (HPU.out _ w6 h1 h2); have HO6 := Lib.hid h1; have H36 := Lib.hid h2.size; have HV6 := Lib.hid (hv6 HVV.out HOW.out h2); have g3 := cells_at HV6.out 0 (u := .slice vA vn vc) rfl; have e3 := cells_free HV6.out 0; have HC2 := Lib.hid (hw6 HOW.out h2 (heap_lt HR1.out.st.cr) (by omega)); have HC4 := Lib.hid (hw6 HOW.out h2 (heap_lt HR1.out.st.cn) (by omega)); have g2 := cells_at (HC2.out.trans HR1.out.st.cr) 0 (u := .slice none 0 0) rfl; have e2 := cells_free (HC2.out.trans HR1.out.st.cr) 0; have g4 := cells_at (HC4.out.trans HR1.out.st.cn) 0 (u := .int .i64 ((y : Nat) : Int)) rfl; have e4 := cells_free (HC4.out.trans HR1.out.st.cn) 0; clear h1 h2))
       exact bd_ret HN6.out (Lib.heap_setCell_same (i := 0) HV6.out _) (by rw [List.map_append]; exact HO6.out.set (by omega)) HY.out
    ·have HE := Lib.hid (show aheadP s y a = a from aheadP_no h1)
     have h1i : ¬ ((y : Nat) : Int) < ((a : Nat) : Int) := by omega
     cases sh with
     | false =>
      have HY := Lib.hid (bd_eq1 HO1.out HQ.out)
      unfold kidL at HY
      dsimp only at HY
      rw [ha, HE.out] at HY
      rw [ha]
      have HPK := Lib.hid (show PrOk (((y : Nat) : Int), ((a : Nat) : Int)) from ⟨⟨by omega, by omega⟩, ⟨by omega, by omega⟩⟩)
      have HPU := Lib.hid (fun v6 w6 (h1 : OwnPrs w6 (w.heap.size + 7) v6 (out.map pairI ++ [(((y : Nat) : Int), ((a : Nat) : Int))])) h2 => HR1.out.push hz7 (v' := v6) (x := (y, a)) HVV.out HOW.out h1 h2)
      gi_wp2_with (gi_at_builtin; refine wpListIn_pushPr (W := W1) (x0 := ((y : Nat) : Int)) (x1 := ((a : Nat) : Int)) HOW.out (by omega) HPK.out HLO.out rfl (.tmp 57) (.tmp 61) 1 rfl rfl (by show Value.slice (some ⟨W1.heap.size, 0, none⟩) 1 1 = _; simp) ?_; intro v6 w6 h1 h2; obtain ⟨A6, n6, c6, rfl⟩ := h1.sl; (have HN6 := Lib.hid (HPU.out _ w6 h1 h2); have HO6 := Lib.hid h1; have H36 := Lib.hid h2.size; have HV6 := Lib.hid (hv6 HVV.out HOW.out h2); have g3 := cells_at HV6.out 0 (u := .slice vA vn vc) rfl; have e3 := cells_free HV6.out 0; have HC2 := Lib.hid (hw6 HOW.out h2 (heap_lt HR1.out.st.cr) (by omega)); have HC4 := Lib.hid (hw6 HOW.out h2 (heap_lt HR1.out.st.cn) (by omega)); have g2 := cells_at (HC2.out.trans HR1.out.st.cr) 0 (u := .slice none 0 0) rfl; have e2 := cells_free (HC2.out.trans HR1.out.st.cr) 0; have g4 := cells_at (HC4.out.trans HR1.out.st.cn) 0 (u := .int .i64 ((y : Nat) : Int)) rfl; have e4 := cells_free (HC4.out.trans HR1.out.st.cn) 0; clear h1 h2))
      exact bd_go (HN6.out.opn x.v.2) (by rw [World.size_setCell, World.size_setCell]; exact Nat.lt_of_lt_of_le hz7 H36.out) HY.out (by rw [List.length_append]; exact Nat.succ_le_succ HO2.out) (fun z hz => by cases hz; exact hxs)
     | true =>
      have HY := Lib.hid (bd_eq2 HO1.out HQ.out)
      unfold kidL at HY
      dsimp only at HY
      rw [ha, HE.out] at HY
      rw [ha]
      have HPK := Lib.hid (show PrOk (((y : Nat) : Int), ((a : Nat) : Int)) from ⟨⟨by omega, by omega⟩, ⟨by omega, by omega⟩⟩)
      have HPU := Lib.hid (fun v6 w6 (h1 : OwnPrs w6 (w.heap.size + 7) v6 (out.map pairI ++ [(((y : Nat) : Int), ((a : Nat) : Int))])) h2 => HR1.out.push hz7 (v' := v6) (x := (y, a)) HVV.out HOW.out h1 h2)
      gi_wp2_with (gi_at_builtin; refine wpListIn_pushPr (W := W1) (x0 := ((y : Nat) : Int)) (x1 := ((a : Nat) : Int)) HOW.out (by omega) HPK.out HLO.out rfl (.tmp 57) (.tmp 61) 1 rfl rfl (by show Value.slice (some ⟨W1.heap.size, 0, none⟩) 1 1 = _; simp) ?_; intro v6 w6 h1 h2; obtain ⟨A6, n6, c6, rfl⟩ := h1.sl; (have HN6 := Lib.hid (HPU.out _ w6 h1 h2); have HO6 := Lib.hid h1; have H36 := Lib.hid h2.size; have HV6 := Lib.hid (hv6 HVV.out HOW.out h2); have g3 := cells_at HV6.out 0 (u := .slice vA vn vc) rfl; have e3 := cells_free HV6.out 0; have HC2 := Lib.hid (hw6 HOW.out h2 (heap_lt HR1.out.st.cr) (by omega)); have HC4 := Lib.hid (hw6 HOW.out h2 (heap_lt HR1.out.st.cn) (by omega)); have g2 := cells_at (HC2.out.trans HR1.out.st.cr) 0 (u := .slice none 0 0) rfl; have e2 := cells_free (HC2.out.trans HR1.out.st.cr) 0; have g4 := cells_at (HC4.out.trans HR1.out.st.cn) 0 (u := .int .i64 ((y : Nat) : Int)) rfl; have e4 := cells_free (HC4.out.trans HR1.out.st.cn) 0; clear h1 h2))
      exact bd_ret HN6.out (Lib.heap_setCell_same (i := 0) HV6.out _) (by rw [List.map_append]; exact HO6.out.set (by omega)) HY.out
 case done =>
  rintro D ys W1 hD hys ⟨⟨out, op, ho1, ho2, ho3, ho4, ho5⟩, hB⟩ hK
  have HO : Hid (out ++ bodG s b [] op = bodiesP s i b) := Lib.hid (by rw [ho1, List.append_nil, hys, HBD.out])
  have HK := Lib.hid hK
  have HD := Lib.hid (show w.heap.size ≤ D by omega)
  have hpl : ys.length ≤ 1000000000 := by
   have := lns_len s i hi
   have h2 := congrArg List.length hys
   rw [List.length_map] at h2
   omega
  have HLO := Lib.hid (show (out.map pairI).length ≤ 1000000000 by rw [List.length_map]; omega)
  have HR1 := Lib.hid (show RdB w s b W1 out op W1 from ⟨ho4, KeepsOthers.refl _, ⟨rfl, rfl⟩, hB⟩)
  have hz7 : w.heap.size + 6 < W1.heap.size := ho5
  have HO3 := Lib.hid ho3
  clear hK hD hys ho1 ho2 ho3 ho4 hB
  obtain ⟨v, hv3, how⟩ := HR1.out.st.co
  obtain ⟨vA, vn, vc, rfl⟩ := how.sl
  have f4 := cells_free HR1.out.st.cn 0
  have c3 := cells_at hv3 0 (u := .slice vA vn vc) rfl
  have f3 := cells_free hv3 0
  have f2 := cells_free HR1.out.st.cr 0
  have c2 := cells_at HR1.out.st.cr 0 (u := .slice none 0 0) rfl
  have HVV := Lib.hid hv3
  have HOW := Lib.hid how
  clear hv3 how
  cases op with
  | none =>
   have c4 : W1.cell? ⟨w.heap.size + 4, 0, none⟩ = some (.int .i64 (-1)) := cells_at HR1.out.st.cn 0 rfl
   have HE := Lib.hid (bd_end HR1.out HVV.out HOW.out)
   have HO' := Lib.hid (show out = bodiesP s i b from by rw [← HO.out]; exact (List.append_nil _).symm)
   gi_wp2
   have hK' := HE.out.1.same D _ HK.out rfl
   refine ⟨by simp, .inl ⟨_, _, rfl, run_takeDeferred hK', ?_⟩⟩
   obtain ⟨v, q1, q2, q3⟩ := bd_fin HE.out.2.1 HE.out.2.2 HD.out hK'
   rw [HO'.out] at q2
   exact ⟨v, by simp [results, Tryz.results73, go_sem, q1], v, rfl, q2, q3⟩
  | some y =>
   have hy := HO3.out y rfl
   have c4 : W1.cell? ⟨w.heap.size + 4, 0, none⟩ = some (.int .i64 ((y : Nat) : Int)) := cells_at HR1.out.st.cn 0 rfl
   have hy0 : ¬ ((y : Nat) : Int) < 0 := by omega
   have d0 := cells_at HR1.out.st.cs 0 (u := .string (ba s)) rfl
   have hz0 : ((ba s).size : Int) = (s.length : Int) := by rw [ba_size]
   have HPK := Lib.hid (show PrOk (((y : Nat) : Int), ((s.length : Nat) : Int)) from ⟨⟨by omega, by omega⟩, ⟨by omega, by omega⟩⟩)
   have HPU := Lib.hid (fun v6 w6 (h1 : OwnPrs w6 (w.heap.size + 7) v6 (out.map pairI ++ [(((y : Nat) : Int), ((s.length : Nat) : Int))])) h2 => HR1.out.push hz7 (v' := v6) (x := (y, s.length)) HVV.out HOW.out h1 h2)
   gi_wp2_with (gi_at_builtin; refine wpListIn_pushPr (W := W1) (x0 := ((y : Nat) : Int)) (x1 := ((s.length : Nat) : Int)) HOW.out (by omega) HPK.out HLO.out rfl (.tmp 68) (.tmp 73) 1 rfl rfl (by show Value.slice (some ⟨W1.heap.size, 0, none⟩) 1 1 = _; simp) ?_; intro v6 w6 h1 h2; obtain ⟨A6, n6, c6, rfl⟩ := h1.sl; (have HN6 := Lib.hid (HPU.out _ w6 h1 h2); have HO6 := Lib.hid h1; have H36 := Lib.hid h2.size; have HV6 := Lib.hid (hv6 HVV.out HOW.out h2); have g3 := cells_at HV6.out 0 (u := .slice vA vn vc) rfl; have e3 := cells_free HV6.out 0; have HC2 := Lib.hid (hw6 HOW.out h2 (heap_lt HR1.out.st.cr) (by omega)); have HC4 := Lib.hid (hw6 HOW.out h2 (heap_lt HR1.out.st.cn) (by omega)); have g2 := cells_at (HC2.out.trans HR1.out.st.cr) 0 (u := .slice none 0 0) rfl; have e2 := cells_free (HC2.out.trans HR1.out.st.cr) 0; have g4 := cells_at (HC4.out.trans HR1.out.st.cn) 0 (u := .int .i64 ((y : Nat) : Int)) rfl; have e4 := cells_free (HC4.out.trans HR1.out.st.cn) 0; clear h1 h2))
   have HE := Lib.hid (bd_end HN6.out (Lib.heap_setCell_same (i := 0) HV6.out _) (by rw [List.map_append]; exact HO6.out.set (by omega)))
   have HO' := Lib.hid (show out ++ [(y, s.length)] = bodiesP s i b from HO.out)
   have hK' := HE.out.1.same D _ HK.out rfl
   refine ⟨by simp, .inl ⟨_, _, rfl, run_takeDeferred hK', ?_⟩⟩
   obtain ⟨v, q1, q2, q3⟩ := bd_fin HE.out.2.1 HE.out.2.2 HD.out hK'
   rw [HO'.out] at q2
   exact ⟨v, by simp [results, Tryz.results73, go_sem, q1], v, rfl, q2, q3⟩
 case stop =>
  rintro D c pre W1 hD ⟨r, hr⟩ ⟨⟨rfl, out, he, hend⟩, hB⟩ hK
  have HO := Lib.hid (show out = bodiesP s i b by rw [HBD.out, ← hr, he])
  have HK := Lib.hid hK
  have HE := Lib.hid hend
  have HB := Lib.hid hB
  have HD := Lib.hid (show w.heap.size ≤ D by omega)
  clear hK hend hB he hr hD
  gi_wp2
  refine ⟨by simp, .inl ⟨_, _, rfl, run_takeDeferred HK.out, ?_⟩⟩
  obtain ⟨v, q1, q2, q3⟩ := bd_fin HE.out HB.out HD.out HK.out
  rw [HO.out] at q2
  exact ⟨v, by simp [results, Tryz.results73, go_sem, q1], v, rfl, q2, q3⟩
end Go.Proofs.YthidbmeaccpjdaaGreatDoor
end
