/- Rows of pouch/api.Field in memory: read, owned, grown by one or by a row (printed by gen_row.py). -/
import Derived.Test.YtnpgnohlcphfnaaGreatDoorHdP
import Derived.Test.YtnpgnohlcphfnaaGreatDoorM01
namespace Go.Proofs.YtnpgnohlcphfnaaGreatDoor
open Go.RowKit
set_option linter.unusedVariables false

theorem fld_info : (Tryz.prog.info? 67).map (fun i => (i.zero, i.size, i.bytes)) = some (some (.agg #[.string ByteArray.empty, .string ByteArray.empty, .string ByteArray.empty, .bool false]), 4, 56) := by kernel_rfl
def fldCells (t : Fld) : List Value := [.string (ba (t.name)), .string (ba (t.value)), .string (ba (t.raw)), .bool (t.bad)]
def FldOk (t : Fld) : Prop := True
/-- 'A' with 'n' places reads as the elements 'ts', in memory below B. -/
def Flds (w : World) (B : Nat) (A : Option Addr) (n : Nat) (ts : List (Fld)) : Prop :=
  n = ts.length ∧ ∀ k (hk : k < ts.length), ∃ ad, A = some ad ∧ (ad.add (k * 4)).block < B ∧ w.cell? (ad.add (k * 4)) = some (.string (ba (ts[k].name))) ∧ w.cell? ⟨(ad.add (k * 4)).block, (ad.add (k * 4)).off + 1, none⟩ = some (.string (ba (ts[k].value))) ∧ w.cell? ⟨(ad.add (k * 4)).block, (ad.add (k * 4)).off + 2, none⟩ = some (.string (ba (ts[k].raw))) ∧ w.cell? ⟨(ad.add (k * 4)).block, (ad.add (k * 4)).off + 3, none⟩ = some (.bool (ts[k].bad)) ∧ FldOk ts[k]
section
variable {w w' : World} {B B' n : Nat} {A : Option Addr} {ts : List (Fld)}
theorem Flds.below (h : Flds w B A n ts) (hb : Below B w w') : Flds w' B A n ts := by
  refine ⟨h.1, fun k hk => ?_⟩
  obtain ⟨ad, e, h1, c0, c1, c2, c3, h5⟩ := h.2 k hk
  exact ⟨ad, e, h1, (hb.cell h1).trans c0, (hb.cell (p := ⟨(ad.add (k * 4)).block, _, none⟩) h1).trans c1, (hb.cell (p := ⟨(ad.add (k * 4)).block, _, none⟩) h1).trans c2, (hb.cell (p := ⟨(ad.add (k * 4)).block, _, none⟩) h1).trans c3, h5⟩
theorem Flds.more (h : Flds w B A n ts) (hB : B ≤ B') : Flds w B' A n ts := by
  refine ⟨h.1, fun k hk => ?_⟩
  obtain ⟨ad, e, h1, h2⟩ := h.2 k hk
  exact ⟨ad, e, Nat.lt_of_lt_of_le h1 hB, h2⟩
theorem Flds.nil_ : Flds w B A 0 [] := ⟨rfl, fun k hk => by simp at hk⟩
theorem Flds.len (h : Flds w B A n ts) : ts.length = n := h.1.symm
theorem Flds.cutA (h : Flds w B A n ts) (k : Nat) (hk : k ≤ n) : Flds w B A k (ts.take k) := by
  refine ⟨by rw [List.length_take, h.len]; omega, fun j hj => ?_⟩
  rw [List.length_take] at hj
  have := h.2 j (by omega)
  rw [List.getElem_take]
  exact this
theorem Flds.cutB {ad : Addr} (h : Flds w B (some ad) n ts) (k : Nat) (hk : k ≤ n) : Flds w B (some (ad.add (k * 4))) (n - k) (ts.drop k) := by
  refine ⟨by rw [List.length_drop, h.len], fun j hj => ?_⟩
  rw [List.length_drop] at hj
  obtain ⟨ad', e, r⟩ := h.2 (k + j) (by omega)
  injection e with e
  subst e
  refine ⟨_, rfl, ?_⟩
  rw [add_add', show k * 4 + j * 4 = (k + j) * 4 by omega, List.getElem_drop]
  exact r
end
/-- v owns the elements ts, in a row of its own from B on. -/
structure OwnFlds (w : World) (B : Nat) (v : Value) (ts : List (Fld)) : Prop where
  row : w.ownsRow B 67 4 v ts.length (ts.flatMap fldCells)
  each : ∀ t, t ∈ ts → FldOk t
theorem OwnFlds.nil_ (w : World) (B : Nat) : OwnFlds w B (.slice none 0 0) [] := ⟨World.ownsRow_nil _ _ _ _, fun t h => by cases h⟩
theorem OwnFlds.below {w w' : World} {B : Nat} {v : Value} {ts : List (Fld)} (h : OwnFlds w B v ts) (hb : Below w.heap.size w w') : OwnFlds w' B v ts :=
  ⟨ownsRow_block h.row fun b e => hb.block b (h.row.lt b e).2, h.each⟩
theorem OwnFlds.block {w w' : World} {B : Nat} {v : Value} {ts : List (Fld)} (h : OwnFlds w B v ts) (hb : ∀ b, v.ownBlock = some b → w'.heap[b]? = w.heap[b]?) : OwnFlds w' B v ts := ⟨ownsRow_block h.row hb, h.each⟩
theorem OwnFlds.more {w : World} {B B' : Nat} {v : Value} {ts : List (Fld)} (h : OwnFlds w B v ts) (hB : B' ≤ B) : OwnFlds w B' v ts := by
  obtain ⟨⟨h0, h1⟩, h2⟩ := h
  refine ⟨⟨h0, ?_⟩, h2⟩
  rcases h1 with h1 | ⟨g, cap, cur, e, hb, r⟩
  · exact .inl h1
  · exact .inr ⟨g, cap, cur, e, by omega, r⟩
theorem fld_len (ts : List (Fld)) : (ts.flatMap fldCells).length = ts.length * 4 := by induction ts with | nil => rfl | cons a r ih => simp [fldCells] at ih ⊢; omega
theorem fld_get : ∀ (ts : List (Fld)) j (hj : j < ts.length) i (hi : i < 4), (ts.flatMap fldCells)[j * 4 + i]? = (fldCells ts[j])[i]? := fun ts => by
  induction ts with
  | nil => intro j hj; simp at hj
  | cons a r ih =>
    intro j hj i hi
    cases j with
    | zero =>
      simp only [List.flatMap_cons, List.getElem_cons_zero, Nat.zero_mul, Nat.zero_add]
      rw [List.getElem?_append_left (by simp [fldCells]; omega)]
    | succ j =>
      have := ih j (by simpa using hj) i hi
      simp only [List.flatMap_cons, List.getElem_cons_succ]
      rw [List.getElem?_append_right (by simp [fldCells]; omega), show (j + 1) * 4 + i - (fldCells a).length = j * 4 + i by simp [fldCells]; omega]
      exact this
theorem fld_addS (a : Addr) {i : Nat} (hi : i ≠ 0) : a.add i = ⟨a.block, a.off + i, none⟩ := by unfold Addr.add; rw [if_neg hi]
/-- Elements that a slice owns, read. -/
theorem OwnFlds.reads {w : World} {B : Nat} {v : Value} {ts : List (Fld)} (h : OwnFlds w B v ts) : ∃ A c, v = .slice A ts.length c ∧ ts.length ≤ c ∧ c ≤ maxLen ∧ Flds w w.heap.size A ts.length ts := by
  have h0 := h.row
  rcases h0.2 with ⟨rfl, hn⟩ | ⟨g, cap, cur, rfl, hb, hg, q1, q2, q3⟩
  · have : ts = [] := List.eq_nil_of_length_eq_zero hn
    subst this
    exact ⟨none, 0, rfl, Nat.le_refl _, by simp, Flds.nil_⟩
  · refine ⟨_, cap, rfl, q1, q2, rfl, fun k hk => ?_⟩
    have hc : ∀ i u, i < 4 → (fldCells ts[k])[i]? = some u → w.cell? ⟨g, k * 4 + i, none⟩ = some u := fun i u hi hu => by
      have := h0.cells (g := g) rfl (k * 4 + i) u (by rw [fld_get ts k hk i hi]; exact hu)
      unfold Addr.add at this
      by_cases e0 : k * 4 + i = 0
      · rw [if_pos e0] at this; rw [e0]; exact this
      · rw [if_neg e0] at this; rw [Nat.zero_add] at this; exact this
    have e1 : (Addr.add ⟨g, 0, none⟩ (k * 4)) = ⟨g, k * 4, none⟩ := by
      unfold Addr.add
      split
      · rename_i e0; rw [e0]
      · rw [Nat.zero_add]
    refine ⟨⟨g, 0, none⟩, rfl, by rw [add_block]; exact heap_lt hg, ?_, ?_, ?_, ?_, h.each _ (List.getElem_mem hk)⟩
    · rw [e1]; exact hc 0 _ (by omega) rfl
    · rw [e1]; exact hc 1 _ (by omega) rfl
    · rw [e1]; exact hc 2 _ (by omega) rfl
    · rw [e1]; exact hc 3 _ (by omega) rfl
theorem OwnFlds.unfrozen {w : World} {B n c : Nat} {ad : Addr} {ts : List (Fld)} (h : OwnFlds w B (.slice (some ad) n c) ts) (i : Nat) : w.frozen? ⟨ad.block, i, none⟩ = false ∧ ad.block < w.heap.size := by
  rcases h.row.2 with ⟨e, _⟩ | ⟨g', cap, cur, e, _, hg, _⟩
  · cases e
  · injection e with e
    injection e with e
    subst e
    exact ⟨by simp [World.frozen?, hg], heap_lt hg⟩
theorem fld_one (l : List (Fld)) : ∀ u ∈ l.flatMap fldCells, u.oneCell' = true := by
  intro u hu
  obtain ⟨t, _, ht⟩ := List.mem_flatMap.1 hu
  simp only [fldCells, List.mem_cons, List.not_mem_nil, or_false] at ht
  rcases ht with rfl | rfl | rfl | rfl <;> rfl
set_option maxRecDepth 100000 in
theorem run_pushFld {W : World} {B : Nat} {v : Value} {ts : List (Fld)} {x0 : List UInt8} {x1 : List UInt8} {x2 : List UInt8} {x3 : Bool} (hT : OwnFlds W B v ts) (hB : B ≤ W.heap.size) (hf : FldOk (⟨x0, x1, x2, x3⟩ : Fld)) (hlen : ts.length ≤ 1000000000) (c : Nat) (ty : TypeId) :
    ∃ v' w', (Builtin.append_ #[45, 45] ty #[v, .slice (some ⟨W.heap.size, 0, none⟩) 1 c]).run Tryz.prog (W.alloc (.cells #[.string (ba x0), .string (ba x1), .string (ba x2), .bool x3] 67)) = .ok v' w' ∧ OwnFlds w' B v' (ts ++ [(⟨x0, x1, x2, x3⟩ : Fld)]) ∧ W.grownBy w' v.ownBlock := by
  obtain ⟨i0, hi, hz0, hz1, hz2⟩ := info_parts fld_info
  obtain ⟨v', w', hrun, h1, h2, _, h4⟩ := run_append_own_at (P := Tryz.prog) (W.alloc (.cells #[.string (ba x0), .string (ba x1), .string (ba x2), .bool x3] 67)) B 45 ty 67 i0 _ 4 56 Tryz.underlying45 hi hz0 hz1 hz2 rfl (by omega) v ts.length (ts.flatMap fldCells) (World.ownsRow.alloc hT.row _) ⟨W.heap.size, 0, none⟩ 1 c (fldCells (⟨x0, x1, x2, x3⟩ : Fld)) rfl (World.news_of_block (MapKept.heap_alloc W _).1) (fun u hu => fld_one [(⟨x0, x1, x2, x3⟩ : Fld)] u (by simpa using hu)) (by simp only [maxLen]; omega) (by omega) (by simp; omega)
  have h5 := World.grownBy_alloc W (.cells #[.string (ba x0), .string (ba x1), .string (ba x2), .bool x3] 67) v.ownBlock
  refine ⟨v', w', hrun, ⟨by simpa using h1, fun t ht => ?_⟩, ⟨h2.os.trans h5.os, h2.tape.trans h5.tape, h2.output.trans h5.output, Nat.le_trans h5.size h2.size, fun k hk hne => (h2.block k (by simp; omega) hne).trans (h5.block k hk hne)⟩⟩
  rcases List.mem_append.1 ht with ht | ht
  · exact hT.each t ht
  · rw [List.mem_singleton] at ht; subst ht; exact hf
theorem wp_pushFld {o : Oper} {a : Act} {K : Act → World → Prop} {W : World} {Q : Exit → Act → World → Prop} {B : Nat} {v : Value} {ts : List (Fld)} {x0 : List UInt8} {x1 : List UInt8} {x2 : List UInt8} {x3 : Bool} (hT : OwnFlds W B v ts) (hB : B ≤ W.heap.size) (hf : FldOk (⟨x0, x1, x2, x3⟩ : Fld))
    (hlen : ts.length ≤ 1000000000) (s y : Operand) (c : Nat)
    (ho : o.op = .call { callee := .builtin .append, args := #[s, y], argTypes := #[45, 45] }) (hs : a.eval s = v) (hx : a.eval y = .slice (some ⟨W.heap.size, 0, none⟩) 1 c)
    (h : ∀ v' w', OwnFlds w' B v' (ts ++ [(⟨x0, x1, x2, x3⟩ : Fld)]) → W.grownBy w' v.ownBlock → K (a.put o.dst v') w') : o.wp Tryz.prog a (W.alloc (.cells #[.string (ba x0), .string (ba x1), .string (ba x2), .bool x3] 67)) K Q := by
  obtain ⟨v', w', hrun, h1, h2⟩ := run_pushFld hT hB hf hlen c o.type
  unfold Oper.wp execOp
  simp only [ho, resolve, invoke, builtin, Sem.run_bind, Sem.run_pure, Result.andThen_ok, List.map_toArray, List.map_cons, List.map_nil, hs, hx, hrun]
  exact h v' w' h1 h2
theorem step_pushFld {ops : Array Oper} {o : Oper} {a : Act} {W : World} {K : Act → World → Prop} {Q : Exit → Act → World → Prop} {E : Prop} {B : Nat} {v : Value} {ts : List (Fld)} {x0 : List UInt8} {x1 : List UInt8} {x2 : List UInt8} {x3 : Bool} (hT : OwnFlds W B v ts) (hB : B ≤ W.heap.size) (hf : FldOk (⟨x0, x1, x2, x3⟩ : Fld))
    (hlen : ts.length ≤ 1000000000) (hgd : o.guard = none) (s y : Operand) (c : Nat)
    (ho : o.op = .call { callee := .builtin .append, args := #[s, y], argTypes := #[45, 45] }) (hs : a.eval s = v) (hx : a.eval y = .slice (some ⟨W.heap.size, 0, none⟩) 1 c)
    (h : ∀ v' w', OwnFlds w' B v' (ts ++ [(⟨x0, x1, x2, x3⟩ : Fld)]) → W.grownBy w' v.ownBlock → K (a.put o.dst v') w') :
    if Region.wanted o (yielded ops a.tmps) = true then Oper.wp Tryz.prog o a (W.alloc (.cells #[.string (ba x0), .string (ba x1), .string (ba x2), .bool x3] 67)) K Q else E := by
  have hw : Region.wanted o (yielded ops a.tmps) = true := by simp [Region.wanted, hgd]
  rw [if_pos hw]
  exact wp_pushFld hT hB hf hlen s y c ho hs hx h
theorem wpList_pushFld {ops : Array Oper} {rest : List Oper} {o : Oper} {a : Act} {W : World} {Q : Exit → Act → World → Prop} {B : Nat} {v : Value} {ts : List (Fld)} {x0 : List UInt8} {x1 : List UInt8} {x2 : List UInt8} {x3 : Bool} (hT : OwnFlds W B v ts) (hB : B ≤ W.heap.size) (hf : FldOk (⟨x0, x1, x2, x3⟩ : Fld))
    (hlen : ts.length ≤ 1000000000) (hgd : o.guard = none) (s y : Operand) (c : Nat)
    (ho : o.op = .call { callee := .builtin .append, args := #[s, y], argTypes := #[45, 45] }) (hs : a.eval s = v) (hx : a.eval y = .slice (some ⟨W.heap.size, 0, none⟩) 1 c)
    (h : ∀ v' w', OwnFlds w' B v' (ts ++ [(⟨x0, x1, x2, x3⟩ : Fld)]) → W.grownBy w' v.ownBlock → wpList Tryz.prog ops Q rest (a.put o.dst v') w') :
    wpList Tryz.prog ops Q (o :: rest) a (W.alloc (.cells #[.string (ba x0), .string (ba x1), .string (ba x2), .bool x3] 67)) :=
  wpList_plain hgd fun _ hK => wp_pushFld hT hB hf hlen s y c ho hs hx fun v' w' h2 h3 => hK _ _ (h v' w' h2 h3)
theorem Flds.cells {w : World} {B m : Nat} {ad : Addr} {l : List (Fld)} (h : Flds w B (some ad) m l) : ∀ j u, (l.flatMap fldCells)[j]? = some u → w.cell? (ad.add j) = some u := by
  intro j u hu
  have hj : j < l.length * 4 := by have := (List.getElem?_eq_some_iff.1 hu).1; rw [fld_len] at this; exact this
  obtain ⟨k, i, hi, rfl⟩ : ∃ k i, i < 4 ∧ j = k * 4 + i := ⟨j / 4, j % 4, by omega, by omega⟩
  have hk : k < l.length := by omega
  rw [fld_get l k hk i hi] at hu
  obtain ⟨ad', e, _, c0, c1, c2, c3, _⟩ := h.2 k hk
  injection e with e
  subst e
  rw [← add_add']
  match i, hi with
  | 0, _ =>
    have hu' : Value.string (ba (l[k].name)) = u := Option.some.inj hu
    subst hu'
    have e0 : (ad.add (k * 4)).add 0 = ad.add (k * 4) := by unfold Addr.add; rfl
    rw [e0]; exact c0
  | 1, _ =>
    have hu' : Value.string (ba (l[k].value)) = u := Option.some.inj hu
    subst hu'
    rw [fld_addS _ (by decide)]; exact c1
  | 2, _ =>
    have hu' : Value.string (ba (l[k].raw)) = u := Option.some.inj hu
    subst hu'
    rw [fld_addS _ (by decide)]; exact c2
  | 3, _ =>
    have hu' : Value.bool (l[k].bad) = u := Option.some.inj hu
    subst hu'
    rw [fld_addS _ (by decide)]; exact c3
set_option maxRecDepth 100000 in
theorem run_noneFld (w : World) (B : Nat) (t ty : TypeId) (ht : Tryz.prog.underlying t = some (.slice 67)) (v : Value) (acc : List (Fld)) (hown : OwnFlds w B v acc) (c : Nat) : (Builtin.append_ #[t, t] ty #[v, .slice none 0 c]).run Tryz.prog w = .ok v w := by
  obtain ⟨i0, hi, hz0, hz1, hz2⟩ := info_parts fld_info
  rcases hown.row.2 with ⟨rfl, _⟩ | ⟨g, cap, cur, rfl, _, _, hnc, _⟩
  · simp [Builtin.append_, run_underlying ht, sizeOf, typeInfo, hi, Builtin.lenOf, Builtin.firstCells]
  · simp [Builtin.append_, run_underlying ht, sizeOf, typeInfo, hi, Builtin.lenOf, Builtin.firstCells, hnc, storeCells]
set_option maxRecDepth 100000 in
theorem run_joinFld (w : World) (B : Nat) (t ty : TypeId) (ht : Tryz.prog.underlying t = some (.slice 67)) (v : Value) (acc : List (Fld)) (hown : OwnFlds w B v acc) (hB : B ≤ w.heap.size)
    (D : Nat) (A : Option Addr) (m c : Nat) (l : List (Fld)) (hr : Flds w D A m l) (hlen : acc.length + m ≤ 1000000000) :
    ∃ v' w', (Builtin.append_ #[t, t] ty #[v, .slice A m c]).run Tryz.prog w = .ok v' w' ∧ OwnFlds w' B v' (acc ++ l) ∧ w.grownBy w' v.ownBlock ∧ (v'.ownBlock = v.ownBlock ∨ ∃ k, v'.ownBlock = some k ∧ w.heap.size ≤ k) := by
  obtain ⟨i0, hi, hz0, hz1, hz2⟩ := info_parts fld_info
  have hml := hr.len
  rcases A with _ | ad
  · have hl : l = [] := by
      cases l with
      | nil => rfl
      | cons a r => obtain ⟨ad, e, _⟩ := hr.2 0 (by simp); cases e
    subst hl
    obtain rfl : m = 0 := hml.symm
    exact ⟨v, w, run_noneFld w B t ty ht v acc hown c, by simpa using hown, World.grownBy.refl w _, .inl rfl⟩
  · obtain ⟨v', w', hrun, h2, h3, _, h5⟩ := run_append_own_at (P := Tryz.prog) w B t ty 67 i0 _ 4 56 ht hi hz0 hz1 hz2 rfl (by omega) v acc.length (acc.flatMap fldCells) hown.row ad m c (l.flatMap fldCells) (by rw [fld_len, hml]) hr.cells (fld_one l) (by simp only [maxLen]; omega) (by omega) hB
    refine ⟨v', w', hrun, ⟨?_, fun t ht => ?_⟩, h3, ?_⟩
    · rw [List.flatMap_append, List.length_append, hml]; exact h2
    · rcases List.mem_append.1 ht with ht | ht
      · exact hown.each t ht
      · obtain ⟨k, hk, rfl⟩ := List.getElem_of_mem ht
        obtain ⟨_, _, _, _, _, _, _, hb⟩ := hr.2 k hk
        exact hb
    · rcases h5 with h | h
      · exact .inl h
      · exact .inr ⟨_, h, Nat.le_refl _⟩
theorem wpList_joinFld {ops : Array Oper} {rest : List Oper} {o : Oper} {a : Act} {w : World} {Q : Exit → Act → World → Prop} {B : Nat} {v : Value} {acc : List (Fld)} (hown : OwnFlds w B v acc) (hB : B ≤ w.heap.size)
    {D : Nat} {A : Option Addr} {m : Nat} {l : List (Fld)} (hr : Flds w D A m l) (hlen : acc.length + m ≤ 1000000000) (hgd : o.guard = none) (s x : Operand) (t : TypeId) (c : Nat)
    (ho : o.op = .call { callee := .builtin .append, args := #[s, x], argTypes := #[t, t] }) (ht : Tryz.prog.underlying t = some (.slice 67)) (hs : a.eval s = v) (hx : a.eval x = .slice A m c)
    (h : ∀ v' w', OwnFlds w' B v' (acc ++ l) → w.grownBy w' v.ownBlock → (v'.ownBlock = v.ownBlock ∨ ∃ k, v'.ownBlock = some k ∧ w.heap.size ≤ k) → wpList Tryz.prog ops Q rest (a.put o.dst v') w') : wpList Tryz.prog ops Q (o :: rest) a w := by
  refine wpList_plain hgd fun K hK => ?_
  obtain ⟨v', w', hrun, h2, h3, h4⟩ := run_joinFld w B t o.type ht v acc hown hB D A m c l hr hlen
  unfold Oper.wp execOp
  simp only [ho, resolve, invoke, builtin, Sem.run_bind, Sem.run_pure, Result.andThen_ok, List.map_toArray, List.map_cons, List.map_nil, hs, hx, hrun]
  exact hK _ _ (h v' w' h2 h3 h4)
end Go.Proofs.YtnpgnohlcphfnaaGreatDoor
