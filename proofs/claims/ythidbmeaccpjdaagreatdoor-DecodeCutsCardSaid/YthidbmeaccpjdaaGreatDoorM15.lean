/- Rows of pouch/api.Field in memory: read, owned, grown by one or by a row (printed by gen_row.py). Layer 9: the contract of field. Layer 9: the contract of Parse (a header section's fields). Layer 9: the contract of small. -/
import Derived.Test.YthidbmeaccpjdaaGreatDoorM01
import Derived.Test.YthidbmeaccpjdaaGreatDoorM08
import Derived.Test.YthidbmeaccpjdaaGreatDoorM12
import Derived.Test.YthidbmeaccpjdaaGreatDoorM02
section
namespace Go.Proofs.YthidbmeaccpjdaaGreatDoor
open Go.RowKit
set_option linter.unusedVariables false
theorem fld_info : (Tryz.prog.info? 162).map (fun i => (i.zero, i.size, i.bytes)) = some (some (.agg #[.string ByteArray.empty, .string ByteArray.empty, .string ByteArray.empty, .bool false]), 4, 56) := by kernel_rfl
def fldCells (t : Fld) : List Value := [.string (ba (t.name)), .string (ba (t.value)), .string (ba (t.raw)), .bool (t.bad)]
def FldOk (t : Fld) : Prop := True
def Flds (w : World) (B : Nat) (A : Option Addr) (n : Nat) (ts : List (Fld)) : Prop :=
 n = ts.length ∧ ∀ k (hk : k < ts.length), ∃ ad, A = some ad ∧ (ad.add (k * 4)).block < B ∧ w.cell? (ad.add (k * 4)) = some (.string (ba (ts[k].name))) ∧ w.cell? ⟨(ad.add (k * 4)).block, (ad.add (k * 4)).off + 1, none⟩ = some (.string (ba (ts[k].value))) ∧ w.cell? ⟨(ad.add (k * 4)).block, (ad.add (k * 4)).off + 2, none⟩ = some (.string (ba (ts[k].raw))) ∧ w.cell? ⟨(ad.add (k * 4)).block, (ad.add (k * 4)).off + 3, none⟩ = some (.bool (ts[k].bad)) ∧ FldOk ts[k]
section
variable {w w' : World} {B B' n : Nat} {A : Option Addr} {ts : List (Fld)}
theorem Flds.below (h : Flds w B A n ts) (hb : Below B w w') : Flds w' B A n ts := by
 refine ⟨h.1, fun k hk => ?_⟩
 obtain ⟨ad, e, h1, c0, c1, c2, c3, h5⟩ := h.2 k hk
 exact ⟨ad, e, h1, (hb.cell h1).trans c0, (hb.cell (p := ⟨(ad.add (k * 4)).block, _, none⟩) h1).trans c1, (hb.cell (p := ⟨(ad.add (k * 4)).block, _, none⟩) h1).trans c2, (hb.cell (p := ⟨(ad.add (k * 4)).block, _, none⟩) h1).trans c3, h5⟩
theorem Flds.more (h : Flds w B A n ts) (hB : B ≤ B') : Flds w B' A n ts := by
 refine ⟨h.1, fun k hk => ?_⟩
 obtain ⟨ad, e, h1, h2⟩ := h.2 k hk
 exact ⟨ad, e, Nat.lt_of_lt_of_le h1 hB, h2⟩
theorem Flds.nil_ : Flds w B A 0 [] := ⟨rfl, fun k hk => by simp at hk⟩
theorem Flds.len (h : Flds w B A n ts) : ts.length = n := h.1.symm
theorem Flds.cutA (h : Flds w B A n ts) (k : Nat) (hk : k ≤ n) : Flds w B A k (ts.take k) := by
 refine ⟨by rw [List.length_take, h.len]; omega, fun j hj => ?_⟩
 rw [List.length_take] at hj
 have := h.2 j (by omega)
 rw [List.getElem_take]
 exact this
theorem Flds.cutB {ad : Addr} (h : Flds w B (some ad) n ts) (k : Nat) (hk : k ≤ n) : Flds w B (some (ad.add (k * 4))) (n - k) (ts.drop k) := by
 refine ⟨by rw [List.length_drop, h.len], fun j hj => ?_⟩
 rw [List.length_drop] at hj
 obtain ⟨ad', e, r⟩ := h.2 (k + j) (by omega)
 injection e with e
 subst e
 refine ⟨_, rfl, ?_⟩
 rw [add_add', show k * 4 + j * 4 = (k + j) * 4 by omega, List.getElem_drop]
 exact r
end
structure OwnFlds (w : World) (B : Nat) (v : Value) (ts : List (Fld)) : Prop where
 row : w.ownsRow B 162 4 v ts.length (ts.flatMap fldCells)
 each : ∀ t, t ∈ ts → FldOk t
theorem OwnFlds.nil_ (w : World) (B : Nat) : OwnFlds w B (.slice none 0 0) [] := ⟨World.ownsRow_nil _ _ _ _, fun t h => by cases h⟩
theorem OwnFlds.below {w w' : World} {B : Nat} {v : Value} {ts : List (Fld)} (h : OwnFlds w B v ts) (hb : Below w.heap.size w w') : OwnFlds w' B v ts :=
 ⟨ownsRow_block h.row fun b e => hb.block b (h.row.lt b e).2, h.each⟩
theorem OwnFlds.block {w w' : World} {B : Nat} {v : Value} {ts : List (Fld)} (h : OwnFlds w B v ts) (hb : ∀ b, v.ownBlock = some b → w'.heap[b]? = w.heap[b]?) : OwnFlds w' B v ts := ⟨ownsRow_block h.row hb, h.each⟩
theorem OwnFlds.more {w : World} {B B' : Nat} {v : Value} {ts : List (Fld)} (h : OwnFlds w B v ts) (hB : B' ≤ B) : OwnFlds w B' v ts := by
 obtain ⟨⟨h0, h1⟩, h2⟩ := h
 refine ⟨⟨h0, ?_⟩, h2⟩
 rcases h1 with h1 | ⟨g, cap, cur, e, hb, r⟩
 ·exact .inl h1
 ·exact .inr ⟨g, cap, cur, e, by omega, r⟩
theorem fld_len (ts : List (Fld)) : (ts.flatMap fldCells).length = ts.length * 4 := by induction ts with | nil => rfl | cons a r ih => simp [fldCells] at ih ⊢; omega
theorem fld_get : ∀ (ts : List (Fld)) j (hj : j < ts.length) i (hi : i < 4), (ts.flatMap fldCells)[j * 4 + i]? = (fldCells ts[j])[i]? := fun ts => by
 induction ts with
 | nil => intro j hj; simp at hj
 | cons a r ih =>
  intro j hj i hi
  cases j with
  | zero =>
   simp only [List.flatMap_cons, List.getElem_cons_zero, Nat.zero_mul, Nat.zero_add]
   rw [List.getElem?_append_left (by simp [fldCells]; omega)]
  | succ j =>
   have := ih j (by simpa using hj) i hi
   simp only [List.flatMap_cons, List.getElem_cons_succ]
   rw [List.getElem?_append_right (by simp [fldCells]; omega), show (j + 1) * 4 + i - (fldCells a).length = j * 4 + i by simp [fldCells]; omega]
   exact this
theorem fld_addS (a : Addr) {i : Nat} (hi : i ≠ 0) : a.add i = ⟨a.block, a.off + i, none⟩ := by unfold Addr.add; rw [if_neg hi]
theorem OwnFlds.reads {w : World} {B : Nat} {v : Value} {ts : List (Fld)} (h : OwnFlds w B v ts) : ∃ A c, v = .slice A ts.length c ∧ ts.length ≤ c ∧ c ≤ maxLen ∧ Flds w w.heap.size A ts.length ts := by
 have h0 := h.row
 rcases h0.2 with ⟨rfl, hn⟩ | ⟨g, cap, cur, rfl, hb, hg, q1, q2, q3⟩
 ·have : ts = [] := List.eq_nil_of_length_eq_zero hn
  subst this
  exact ⟨none, 0, rfl, Nat.le_refl _, by simp, Flds.nil_⟩
 ·refine ⟨_, cap, rfl, q1, q2, rfl, fun k hk => ?_⟩
  have hc : ∀ i u, i < 4 → (fldCells ts[k])[i]? = some u → w.cell? ⟨g, k * 4 + i, none⟩ = some u := fun i u hi hu => by
   have := h0.cells (g := g) rfl (k * 4 + i) u (by rw [fld_get ts k hk i hi]; exact hu)
   unfold Addr.add at this
   by_cases e0 : k * 4 + i = 0
   ·rw [if_pos e0] at this; rw [e0]; exact this
   ·rw [if_neg e0] at this; rw [Nat.zero_add] at this; exact this
  have e1 : (Addr.add ⟨g, 0, none⟩ (k * 4)) = ⟨g, k * 4, none⟩ := by
   unfold Addr.add
   split
   ·rename_i e0; rw [e0]
   ·rw [Nat.zero_add]
  refine ⟨⟨g, 0, none⟩, rfl, by rw [add_block]; exact heap_lt hg, ?_, ?_, ?_, ?_, h.each _ (List.getElem_mem hk)⟩
  ·rw [e1]; exact hc 0 _ (by omega) rfl
  ·rw [e1]; exact hc 1 _ (by omega) rfl
  ·rw [e1]; exact hc 2 _ (by omega) rfl
  ·rw [e1]; exact hc 3 _ (by omega) rfl
theorem OwnFlds.unfrozen {w : World} {B n c : Nat} {ad : Addr} {ts : List (Fld)} (h : OwnFlds w B (.slice (some ad) n c) ts) (i : Nat) : w.frozen? ⟨ad.block, i, none⟩ = false ∧ ad.block < w.heap.size := by
 rcases h.row.2 with ⟨e, _⟩ | ⟨g', cap, cur, e, _, hg, _⟩
 ·cases e
 ·injection e with e
  injection e with e
  subst e
  exact ⟨by simp [World.frozen?, hg], heap_lt hg⟩
theorem fld_one (l : List (Fld)) : ∀ u ∈ l.flatMap fldCells, u.oneCell' = true := by
 intro u hu
 obtain ⟨t, _, ht⟩ := List.mem_flatMap.1 hu
 simp only [fldCells, List.mem_cons, List.not_mem_nil, or_false] at ht
 rcases ht with rfl | rfl | rfl | rfl <;> rfl
set_option maxRecDepth 100000 in
theorem run_pushFld {W : World} {B : Nat} {v : Value} {ts : List (Fld)} {x0 : List UInt8} {x1 : List UInt8} {x2 : List UInt8} {x3 : Bool} (hT : OwnFlds W B v ts) (hB : B ≤ W.heap.size) (hf : FldOk (⟨x0, x1, x2, x3⟩ : Fld)) (hlen : ts.length ≤ 1000000000) (c : Nat) (ty : TypeId) :
  ∃ v' w', (Builtin.append_ #[84, 84] ty #[v, .slice (some ⟨W.heap.size, 0, none⟩) 1 c]).run Tryz.prog (W.alloc (.cells #[.string (ba x0), .string (ba x1), .string (ba x2), .bool x3] 162)) = .ok v' w' ∧ OwnFlds w' B v' (ts ++ [(⟨x0, x1, x2, x3⟩ : Fld)]) ∧ W.grownBy w' v.ownBlock := by
 obtain ⟨i0, hi, hz0, hz1, hz2⟩ := info_parts fld_info
 obtain ⟨v', w', hrun, h1, h2, _, h4⟩ := run_append_own_at (P := Tryz.prog) (W.alloc (.cells #[.string (ba x0), .string (ba x1), .string (ba x2), .bool x3] 162)) B 84 ty 162 i0 _ 4 56 Tryz.underlying84 hi hz0 hz1 hz2 rfl (by omega) v ts.length (ts.flatMap fldCells) (World.ownsRow.alloc hT.row _) ⟨W.heap.size, 0, none⟩ 1 c (fldCells (⟨x0, x1, x2, x3⟩ : Fld)) rfl (World.news_of_block (MapKept.heap_alloc W _).1) (fun u hu => fld_one [(⟨x0, x1, x2, x3⟩ : Fld)] u (by simpa using hu)) (by simp only [maxLen]; omega) (by omega) (by simp; omega)
 have h5 := World.grownBy_alloc W (.cells #[.string (ba x0), .string (ba x1), .string (ba x2), .bool x3] 162) v.ownBlock
 refine ⟨v', w', hrun, ⟨by simpa using h1, fun t ht => ?_⟩, ⟨h2.os.trans h5.os, h2.tape.trans h5.tape, h2.output.trans h5.output, Nat.le_trans h5.size h2.size, fun k hk hne => (h2.block k (by simp; omega) hne).trans (h5.block k hk hne)⟩⟩
 rcases List.mem_append.1 ht with ht | ht
 ·exact hT.each t ht
 ·rw [List.mem_singleton] at ht; subst ht; exact hf
theorem wp_pushFld {o : Oper} {a : Act} {K : Act → World → Prop} {W : World} {Q : Exit → Act → World → Prop} {B : Nat} {v : Value} {ts : List (Fld)} {x0 : List UInt8} {x1 : List UInt8} {x2 : List UInt8} {x3 : Bool} (hT : OwnFlds W B v ts) (hB : B ≤ W.heap.size) (hf : FldOk (⟨x0, x1, x2, x3⟩ : Fld))
  (hlen : ts.length ≤ 1000000000) (s y : Operand) (c : Nat)
  (ho : o.op = .call { callee := .builtin .append, args := #[s, y], argTypes := #[84, 84] }) (hs : a.eval s = v) (hx : a.eval y = .slice (some ⟨W.heap.size, 0, none⟩) 1 c)
  (h : ∀ v' w', OwnFlds w' B v' (ts ++ [(⟨x0, x1, x2, x3⟩ : Fld)]) → W.grownBy w' v.ownBlock → K (a.put o.dst v') w') : o.wp Tryz.prog a (W.alloc (.cells #[.string (ba x0), .string (ba x1), .string (ba x2), .bool x3] 162)) K Q := by
 obtain ⟨v', w', hrun, h1, h2⟩ := run_pushFld hT hB hf hlen c o.type
 unfold Oper.wp execOp
 simp only [ho, resolve, invoke, builtin, Sem.run_bind, Sem.run_pure, Result.andThen_ok, List.map_toArray, List.map_cons, List.map_nil, hs, hx, hrun]
 exact h v' w' h1 h2
theorem step_pushFld {ops : Array Oper} {o : Oper} {a : Act} {W : World} {K : Act → World → Prop} {Q : Exit → Act → World → Prop} {E : Prop} {B : Nat} {v : Value} {ts : List (Fld)} {x0 : List UInt8} {x1 : List UInt8} {x2 : List UInt8} {x3 : Bool} (hT : OwnFlds W B v ts) (hB : B ≤ W.heap.size) (hf : FldOk (⟨x0, x1, x2, x3⟩ : Fld))
  (hlen : ts.length ≤ 1000000000) (hgd : o.guard = none) (s y : Operand) (c : Nat)
  (ho : o.op = .call { callee := .builtin .append, args := #[s, y], argTypes := #[84, 84] }) (hs : a.eval s = v) (hx : a.eval y = .slice (some ⟨W.heap.size, 0, none⟩) 1 c)
  (h : ∀ v' w', OwnFlds w' B v' (ts ++ [(⟨x0, x1, x2, x3⟩ : Fld)]) → W.grownBy w' v.ownBlock → K (a.put o.dst v') w') :
  if Region.wanted o (yielded ops a.tmps) = true then Oper.wp Tryz.prog o a (W.alloc (.cells #[.string (ba x0), .string (ba x1), .string (ba x2), .bool x3] 162)) K Q else E := by
 have hw : Region.wanted o (yielded ops a.tmps) = true := by simp [Region.wanted, hgd]
 rw [if_pos hw]
 exact wp_pushFld hT hB hf hlen s y c ho hs hx h
theorem wpList_pushFld {ops : Array Oper} {rest : List Oper} {o : Oper} {a : Act} {W : World} {Q : Exit → Act → World → Prop} {B : Nat} {v : Value} {ts : List (Fld)} {x0 : List UInt8} {x1 : List UInt8} {x2 : List UInt8} {x3 : Bool} (hT : OwnFlds W B v ts) (hB : B ≤ W.heap.size) (hf : FldOk (⟨x0, x1, x2, x3⟩ : Fld))
  (hlen : ts.length ≤ 1000000000) (hgd : o.guard = none) (s y : Operand) (c : Nat)
  (ho : o.op = .call { callee := .builtin .append, args := #[s, y], argTypes := #[84, 84] }) (hs : a.eval s = v) (hx : a.eval y = .slice (some ⟨W.heap.size, 0, none⟩) 1 c)
  (h : ∀ v' w', OwnFlds w' B v' (ts ++ [(⟨x0, x1, x2, x3⟩ : Fld)]) → W.grownBy w' v.ownBlock → wpList Tryz.prog ops Q rest (a.put o.dst v') w') :
  wpList Tryz.prog ops Q (o :: rest) a (W.alloc (.cells #[.string (ba x0), .string (ba x1), .string (ba x2), .bool x3] 162)) :=
 wpList_plain hgd fun _ hK => wp_pushFld hT hB hf hlen s y c ho hs hx fun v' w' h2 h3 => hK _ _ (h v' w' h2 h3)
theorem Flds.cells {w : World} {B m : Nat} {ad : Addr} {l : List (Fld)} (h : Flds w B (some ad) m l) : ∀ j u, (l.flatMap fldCells)[j]? = some u → w.cell? (ad.add j) = some u := by
 intro j u hu
 have hj : j < l.length * 4 := by have := (List.getElem?_eq_some_iff.1 hu).1; rw [fld_len] at this; exact this
 obtain ⟨k, i, hi, rfl⟩ : ∃ k i, i < 4 ∧ j = k * 4 + i := ⟨j / 4, j % 4, by omega, by omega⟩
 have hk : k < l.length := by omega
 rw [fld_get l k hk i hi] at hu
 obtain ⟨ad', e, _, c0, c1, c2, c3, _⟩ := h.2 k hk
 injection e with e
 subst e
 rw [← add_add']
 match i, hi with
 | 0, _ =>
  have hu' : Value.string (ba (l[k].name)) = u := Option.some.inj hu
  subst hu'
  have e0 : (ad.add (k * 4)).add 0 = ad.add (k * 4) := by unfold Addr.add; rfl
  rw [e0]; exact c0
 | 1, _ =>
  have hu' : Value.string (ba (l[k].value)) = u := Option.some.inj hu
  subst hu'
  rw [fld_addS _ (by decide)]; exact c1
 | 2, _ =>
  have hu' : Value.string (ba (l[k].raw)) = u := Option.some.inj hu
  subst hu'
  rw [fld_addS _ (by decide)]; exact c2
 | 3, _ =>
  have hu' : Value.bool (l[k].bad) = u := Option.some.inj hu
  subst hu'
  rw [fld_addS _ (by decide)]; exact c3
set_option maxRecDepth 100000 in
theorem run_noneFld (w : World) (B : Nat) (t ty : TypeId) (ht : Tryz.prog.underlying t = some (.slice 162)) (v : Value) (acc : List (Fld)) (hown : OwnFlds w B v acc) (c : Nat) : (Builtin.append_ #[t, t] ty #[v, .slice none 0 c]).run Tryz.prog w = .ok v w := by
 obtain ⟨i0, hi, hz0, hz1, hz2⟩ := info_parts fld_info
 rcases hown.row.2 with ⟨rfl, _⟩ | ⟨g, cap, cur, rfl, _, _, hnc, _⟩
 ·simp [Builtin.append_, run_underlying ht, sizeOf, typeInfo, hi, Builtin.lenOf, Builtin.firstCells]
 ·simp [Builtin.append_, run_underlying ht, sizeOf, typeInfo, hi, Builtin.lenOf, Builtin.firstCells, hnc, storeCells]
set_option maxRecDepth 100000 in
theorem run_joinFld (w : World) (B : Nat) (t ty : TypeId) (ht : Tryz.prog.underlying t = some (.slice 162)) (v : Value) (acc : List (Fld)) (hown : OwnFlds w B v acc) (hB : B ≤ w.heap.size)
  (D : Nat) (A : Option Addr) (m c : Nat) (l : List (Fld)) (hr : Flds w D A m l) (hlen : acc.length + m ≤ 1000000000) :
  ∃ v' w', (Builtin.append_ #[t, t] ty #[v, .slice A m c]).run Tryz.prog w = .ok v' w' ∧ OwnFlds w' B v' (acc ++ l) ∧ w.grownBy w' v.ownBlock ∧ (v'.ownBlock = v.ownBlock ∨ ∃ k, v'.ownBlock = some k ∧ w.heap.size ≤ k) := by
 obtain ⟨i0, hi, hz0, hz1, hz2⟩ := info_parts fld_info
 have hml := hr.len
 rcases A with _ | ad
 ·have hl : l = [] := by
   cases l with
   | nil => rfl
   | cons a r => obtain ⟨ad, e, _⟩ := hr.2 0 (by simp); cases e
  subst hl
  obtain rfl : m = 0 := hml.symm
  exact ⟨v, w, run_noneFld w B t ty ht v acc hown c, by simpa using hown, World.grownBy.refl w _, .inl rfl⟩
 ·obtain ⟨v', w', hrun, h2, h3, _, h5⟩ := run_append_own_at (P := Tryz.prog) w B t ty 162 i0 _ 4 56 ht hi hz0 hz1 hz2 rfl (by omega) v acc.length (acc.flatMap fldCells) hown.row ad m c (l.flatMap fldCells) (by rw [fld_len, hml]) hr.cells (fld_one l) (by simp only [maxLen]; omega) (by omega) hB
  refine ⟨v', w', hrun, ⟨?_, fun t ht => ?_⟩, h3, ?_⟩
  ·rw [List.flatMap_append, List.length_append, hml]; exact h2
  ·rcases List.mem_append.1 ht with ht | ht
   ·exact hown.each t ht
   ·obtain ⟨k, hk, rfl⟩ := List.getElem_of_mem ht
    obtain ⟨_, _, _, _, _, _, _, hb⟩ := hr.2 k hk
    exact hb
  ·rcases h5 with h | h
   ·exact .inl h
   ·exact .inr ⟨_, h, Nat.le_refl _⟩
theorem wpList_joinFld {ops : Array Oper} {rest : List Oper} {o : Oper} {a : Act} {w : World} {Q : Exit → Act → World → Prop} {B : Nat} {v : Value} {acc : List (Fld)} (hown : OwnFlds w B v acc) (hB : B ≤ w.heap.size)
  {D : Nat} {A : Option Addr} {m : Nat} {l : List (Fld)} (hr : Flds w D A m l) (hlen : acc.length + m ≤ 1000000000) (hgd : o.guard = none) (s x : Operand) (t : TypeId) (c : Nat)
  (ho : o.op = .call { callee := .builtin .append, args := #[s, x], argTypes := #[t, t] }) (ht : Tryz.prog.underlying t = some (.slice 162)) (hs : a.eval s = v) (hx : a.eval x = .slice A m c)
  (h : ∀ v' w', OwnFlds w' B v' (acc ++ l) → w.grownBy w' v.ownBlock → (v'.ownBlock = v.ownBlock ∨ ∃ k, v'.ownBlock = some k ∧ w.heap.size ≤ k) → wpList Tryz.prog ops Q rest (a.put o.dst v') w') : wpList Tryz.prog ops Q (o :: rest) a w := by
 refine wpList_plain hgd fun K hK => ?_
 obtain ⟨v', w', hrun, h2, h3, h4⟩ := run_joinFld w B t o.type ht v acc hown hB D A m c l hr hlen
 unfold Oper.wp execOp
 simp only [ho, resolve, invoke, builtin, Sem.run_bind, Sem.run_pure, Result.andThen_ok, List.map_toArray, List.map_cons, List.map_nil, hs, hx, hrun]
 exact hK _ _ (h v' w' h2 h3 h4)
end Go.Proofs.YthidbmeaccpjdaaGreatDoor
end
section
namespace Go.Proofs.YthidbmeaccpjdaaGreatDoor
open Go.RowKit
set_option linter.unusedVariables false
def fldV (f : Fld) : Value := .agg #[.string (ba f.name), .string (ba f.value), .string (ba f.raw), .bool f.bad]
def FldPost (w : World) (f : Fld) (e : Ending) (w' : World) : Prop := e = .returned (fldV f) ∧ Below w.heap.size w w'
theorem fld_fin {w w' : World} {f : Fld} {n v r : List UInt8} {b : Bool} (h : f = ⟨n, v, r, b⟩) (hb : Below w.heap.size w w') : FldPost w f (.returned (.agg #[.string (ba n), .string (ba v), .string (ba r), .bool b])) w' := by
 subst h
 exact ⟨rfl, hb⟩
theorem trimR_len (l : List UInt8) : (Lib.trimRightS l blanksP).length ≤ l.length := by
 unfold Lib.trimRightS
 rw [List.length_reverse]
 refine Nat.le_trans (List.dropWhile_suffix _).length_le ?_
 rw [List.length_reverse]
 exact Nat.le_refl _
theorem fldP_none {l g : List UInt8} (h : nudeP (l.take (endP l)) = g) (h2 : cutP 58 g = none) : fldP l = ⟨[], [], l, true⟩ := by
 subst h
 unfold fldP
 rw [h2]
theorem fldP_some {l g a b : List UInt8} (h : nudeP (l.take (endP l)) = g) (h2 : cutP 58 g = some (a, b)) : fldP l = if nameOk (Lib.trimRightS a blanksP) = true then ⟨Lib.trimRightS a blanksP, nudeP (l.drop (a.length + 1)), l, false⟩ else ⟨[], [], l, true⟩ := by
 subst h
 unfold fldP
 rw [h2]
set_option maxRecDepth 100000 in
set_option maxHeartbeats 4000000 in
theorem hfield_any (l : List UInt8) (w : World) (hl : l.length ≤ 1000000000) (hT : Tabs w) :
  Calls Tryz.prog 149 #[.string (ba l)] w (FldPost w (fldP l)) := by
 have hB0 := (Below.refl w.heap.size w).alloc (Nat.le_refl _) (.cells #[.string ⟨#[]⟩, .string ⟨#[]⟩, .string ⟨#[]⟩, .bool false] 162)
 have HB0 := Lib.hid hB0
 have HT := Lib.hid hT
 have hle := endP_le l
 have HE := Lib.hid (fun W => hend_any l W hl)
 obtain ⟨g, hg⟩ : ∃ g, nudeP (l.take (endP l)) = g := ⟨_, rfl⟩
 have HBA := Lib.hid (fun W => hbare_any (l.take (endP l)) W (by rw [List.length_take]; omega))
 rw [hg] at HBA
 have hgl : g.length ≤ l.length := by rw [← hg]; have := nudeP_len (l.take (endP l)); rw [List.length_take] at this; omega
 have HFN := Lib.hid (fun h => fldP_none hg h)
 have HFS := Lib.hid (fun a b h => fldP_some (a := a) (b := b) hg h)
 have hx : (ba l).extract 0 (endP l) = ba (l.take (endP l)) := by rw [ba_cut, List.drop_zero]
 have HX := Lib.hid hx
 obtain ⟨m, hm⟩ : ∃ m, endP l = m := ⟨_, rfl⟩
 rw [hm] at HX HBA hle
 simp only [hm] at HE
 obtain ⟨f, hf⟩ : ∃ f, l.take m = f := ⟨_, rfl⟩
 rw [hf] at HX HBA
 have hsz : ((ba l).size : Int) = (l.length : Nat) := by rw [ba_size]
 have hmi : (m : Int) ≤ (l.length : Nat) := by omega
 have hm0 : (0 : Int) ≤ (m : Int) := by omega
 have HLL := Lib.hid hl
 have HGL := Lib.hid hgl
 clear hg hx hm hf hT hB0
 cases hcp : cutP 58 g with
 | none =>
  have HF := Lib.hid (HFN.out hcp)
  have hcv : cutV 58 g = (g, [], false) := by unfold cutV; rw [hcp]
  have HCU := Lib.hid (fun W hW => cut_any 58 g W (by have := HLL.out; have := HGL.out; omega) hW)
  unfold CutPost at HCU
  rw [hcv] at HCU
  have HTR := Lib.hid (fun W => htrimR_any g W (by have := HLL.out; have := HGL.out; omega))
  have hgi : (g.length : Int) ≤ 1000000000 := by have := HLL.out; have := HGL.out; omega
  have hgz : ((ba g).size : Int) = (g.length : Nat) := by rw [ba_size]
  clear hcp hcv hl hgl
  go_enter Tryz.func149, Tryz.ntmps149
  go_wp2_with fail
  refine (HE.out _).mono ?_
  rintro e w2 ⟨rfl, rfl⟩
  go_wp2_with fail
  rw [HX.out]
  refine (HBA.out _).mono ?_
  rintro e w2 ⟨rfl, rfl⟩
  go_wp2_with fail
  refine (HCU.out _ (HT.out.below HB0.out)).mono ?_
  rintro e w2 ⟨rfl, nn, rfl⟩
  go_wp2_with fail
  refine (HTR.out _).mono ?_
  rintro e w3 ⟨rfl, hb3⟩
  have hbk : w3.heap[w.heap.size]? = some (.cells #[.string ⟨#[]⟩, .string ⟨#[]⟩, .string ⟨#[]⟩, .bool false] 162) := (hb3.block w.heap.size (by simp)).trans (((below_drewN (Below.refl (w.alloc (.cells #[.string ⟨#[]⟩, .string ⟨#[]⟩, .string ⟨#[]⟩, .bool false] 162)).heap.size (w.alloc (.cells #[.string ⟨#[]⟩, .string ⟨#[]⟩, .string ⟨#[]⟩, .bool false] 162))) nn).block w.heap.size (by simp)).trans (MapKept.heap_alloc w _).1)
  have HB3 := Lib.hid ((below_drewN HB0.out nn).trans (hb3.mono (by simp)))
  have p0 := cells_at hbk 0 (u := .string ⟨#[]⟩) rfl
  have p1 := cells_at hbk 1 (u := .string ⟨#[]⟩) rfl
  have p2 := cells_at hbk 2 (u := .string ⟨#[]⟩) rfl
  have p3 := cells_at hbk 3 (u := .bool false) rfl
  have q0 := cells_free hbk 0
  have q1 := cells_free hbk 1
  have q2 := cells_free hbk 2
  have q3 := cells_free hbk 3
  clear hb3 hbk
  go_wp2
  refine bodyPost_ret (v := .agg #[.string (ba []), .string (ba []), .string (ba l), .bool true]) (by simp [results, Tryz.results149, go_sem, p0, p1, p2, p3]; try rfl) rfl ?_
  refine fld_fin HF.out ?_
  repeat (first | with_reducible exact HB3.out | refine Below.setCell ?_ (by simp) _)
 | some q =>
  obtain ⟨a, b⟩ := q
  have HF0 := Lib.hid (HFS.out a b hcp)
  have hcv : cutV 58 g = (a, b, true) := by unfold cutV; rw [hcp]
  have hga := (cutP_some hcp).1
  have hal : a.length + 1 ≤ g.length := by rw [hga]; simp
  have HCU := Lib.hid (fun W hW => cut_any 58 g W (by have := HLL.out; have := HGL.out; omega) hW)
  unfold CutPost at HCU
  rw [hcv] at HCU
  have HTR := Lib.hid (fun W => htrimR_any a W (by have := HLL.out; have := HGL.out; omega))
  have htl := trimR_len a
  obtain ⟨t, ht⟩ : ∃ t, Lib.trimRightS a blanksP = t := ⟨_, rfl⟩
  rw [ht] at HTR HF0 htl
  have HRI := Lib.hid (fun W => hright_any t W (by have := HLL.out; have := HGL.out; omega))
  have HB2 := Lib.hid (fun W => hbare_any (l.drop (a.length + 1)) W (by rw [List.length_drop]; have := HLL.out; omega))
  have hx2 : (ba l).extract (a.length + 1) (ba l).size = ba (l.drop (a.length + 1)) := ba_drop l _
  have haz : ((ba a).size : Int) = (a.length : Nat) := by rw [ba_size]
  obtain ⟨A, hA⟩ : ∃ A, a.length = A := ⟨_, rfl⟩
  rw [hA] at hal hx2 HF0 HB2 haz
  obtain ⟨dr, hdr⟩ : ∃ d, l.drop (A + 1) = d := ⟨_, rfl⟩
  rw [hdr] at hx2 HF0 HB2
  have HX2 := Lib.hid hx2
  have hA1 : (A : Int) + 1 ≤ (l.length : Nat) := by have := HGL.out; omega
  have hA2 : (A : Int) ≤ 1000000000 := by have := HLL.out; have := HGL.out; omega
  have hA0 : (0 : Int) ≤ (A : Int) := by omega
  clear hcp hcv hga hal htl ht hx2 hA hdr hl hgl
  cases hok : nameOk t with
  | true =>
   rw [hok] at HRI HF0
   have HF := Lib.hid (show fldP l = ⟨t, nudeP dr, l, false⟩ by rw [HF0.out]; rfl)
   clear hok
   go_enter Tryz.func149, Tryz.ntmps149
   go_wp2_with fail
   refine (HE.out _).mono ?_
   rintro e w2 ⟨rfl, rfl⟩
   go_wp2_with fail
   rw [HX.out]
   refine (HBA.out _).mono ?_
   rintro e w2 ⟨rfl, rfl⟩
   go_wp2_with fail
   refine (HCU.out _ (HT.out.below HB0.out)).mono ?_
   rintro e w2 ⟨rfl, nn, rfl⟩
   go_wp2_with fail
   refine (HTR.out _).mono ?_
   rintro e w3 ⟨rfl, hb3⟩
   have hbk : w3.heap[w.heap.size]? = some (.cells #[.string ⟨#[]⟩, .string ⟨#[]⟩, .string ⟨#[]⟩, .bool false] 162) := (hb3.block w.heap.size (by simp)).trans (((below_drewN (Below.refl (w.alloc (.cells #[.string ⟨#[]⟩, .string ⟨#[]⟩, .string ⟨#[]⟩, .bool false] 162)).heap.size (w.alloc (.cells #[.string ⟨#[]⟩, .string ⟨#[]⟩, .string ⟨#[]⟩, .bool false] 162))) nn).block w.heap.size (by simp)).trans (MapKept.heap_alloc w _).1)
   have HB3 := Lib.hid ((below_drewN HB0.out nn).trans (hb3.mono (by simp)))
   have p0 := cells_at hbk 0 (u := .string ⟨#[]⟩) rfl
   have p1 := cells_at hbk 1 (u := .string ⟨#[]⟩) rfl
   have p2 := cells_at hbk 2 (u := .string ⟨#[]⟩) rfl
   have p3 := cells_at hbk 3 (u := .bool false) rfl
   have q0 := cells_free hbk 0
   have q1 := cells_free hbk 1
   have q2 := cells_free hbk 2
   have q3 := cells_free hbk 3
   clear hb3 hbk
   go_wp2_with fail
   refine (HRI.out _).mono ?_
   rintro e w4 ⟨rfl, hw⟩
   have hw2 := hw.symm
   subst hw2
   clear hw
   go_wp2_with fail
   rw [HX2.out]
   refine (HB2.out _).mono ?_
   rintro e w4 ⟨rfl, hw⟩
   have hw2 := hw.symm
   subst hw2
   clear hw
   go_wp2
   refine bodyPost_ret (v := .agg #[.string (ba t), .string (ba (nudeP dr)), .string (ba l), .bool false]) (by simp [results, Tryz.results149, go_sem, p0, p1, p2, p3]; try rfl) rfl ?_
   refine fld_fin HF.out ?_
   repeat (first | with_reducible exact HB3.out | refine Below.setCell ?_ (by simp) _)
  | false =>
   rw [hok] at HRI HF0
   have HF := Lib.hid (show fldP l = ⟨[], [], l, true⟩ by rw [HF0.out]; rfl)
   clear hok
   go_enter Tryz.func149, Tryz.ntmps149
   go_wp2_with fail
   refine (HE.out _).mono ?_
   rintro e w2 ⟨rfl, rfl⟩
   go_wp2_with fail
   rw [HX.out]
   refine (HBA.out _).mono ?_
   rintro e w2 ⟨rfl, rfl⟩
   go_wp2_with fail
   refine (HCU.out _ (HT.out.below HB0.out)).mono ?_
   rintro e w2 ⟨rfl, nn, rfl⟩
   go_wp2_with fail
   refine (HTR.out _).mono ?_
   rintro e w3 ⟨rfl, hb3⟩
   have hbk : w3.heap[w.heap.size]? = some (.cells #[.string ⟨#[]⟩, .string ⟨#[]⟩, .string ⟨#[]⟩, .bool false] 162) := (hb3.block w.heap.size (by simp)).trans (((below_drewN (Below.refl (w.alloc (.cells #[.string ⟨#[]⟩, .string ⟨#[]⟩, .string ⟨#[]⟩, .bool false] 162)).heap.size (w.alloc (.cells #[.string ⟨#[]⟩, .string ⟨#[]⟩, .string ⟨#[]⟩, .bool false] 162))) nn).block w.heap.size (by simp)).trans (MapKept.heap_alloc w _).1)
   have HB3 := Lib.hid ((below_drewN HB0.out nn).trans (hb3.mono (by simp)))
   have p0 := cells_at hbk 0 (u := .string ⟨#[]⟩) rfl
   have p1 := cells_at hbk 1 (u := .string ⟨#[]⟩) rfl
   have p2 := cells_at hbk 2 (u := .string ⟨#[]⟩) rfl
   have p3 := cells_at hbk 3 (u := .bool false) rfl
   have q0 := cells_free hbk 0
   have q1 := cells_free hbk 1
   have q2 := cells_free hbk 2
   have q3 := cells_free hbk 3
   clear hb3 hbk
   go_wp2_with fail
   refine (HRI.out _).mono ?_
   rintro e w4 ⟨rfl, hw⟩
   have hw2 := hw.symm
   subst hw2
   clear hw
   go_wp2
   refine bodyPost_ret (v := .agg #[.string (ba []), .string (ba []), .string (ba l), .bool true]) (by simp [results, Tryz.results149, go_sem, p0, p1, p2, p3]; try rfl) rfl ?_
   refine fld_fin HF.out ?_
   repeat (first | with_reducible exact HB3.out | refine Below.setCell ?_ (by simp) _)
end Go.Proofs.YthidbmeaccpjdaaGreatDoor
end
section
namespace Go.Proofs.YthidbmeaccpjdaaGreatDoor
open Go.RowKit
set_option linter.unusedVariables false
def moreL (l : List UInt8) : Nat := moreP l.length l
theorem moreL_yes {l : List UInt8} (h : goesP l = true) : moreL l = endP l + moreL (l.drop (endP l)) := by
 unfold moreL
 cases l with
 | nil => cases h
 | cons c r =>
  have h1 := endP_pos (goes_ne h)
  rw [List.length_cons]
  conv => lhs; unfold moreP
  rw [if_pos h, moreP_fuel r.length _ _ (by rw [List.length_drop, List.length_cons]; omega) (Nat.le_refl _)]
theorem moreL_no {l : List UInt8} (h : goesP l = false) : moreL l = 0 := by
 unfold moreL
 cases l with
 | nil => rfl
 | cons c r =>
  rw [List.length_cons]
  unfold moreP
  rw [if_neg (by rw [h]; decide)]
theorem moreL_le (l : List UInt8) : moreL l ≤ l.length := moreP_le _ l
theorem headP_nil : headP [] = ([], 0) := rfl
theorem headP_end {l : List UInt8} (h : l ≠ []) (h2 : nudeP (l.take (endP l)) = []) : headP l = ([], endP l) := by
 unfold headP
 cases l with
 | nil => exact absurd rfl h
 | cons c r =>
  rw [List.length_cons]
  unfold headF
  rw [if_neg h, if_pos h2]
theorem headP_go {l : List UInt8} (h : l ≠ []) (h2 : nudeP (l.take (endP l)) ≠ []) {m : Nat} (hm : endP l + moreL (l.drop (endP l)) = m) : headP l = (fldP (l.take m) :: (headP (l.drop m)).1, m + (headP (l.drop m)).2) := by
 subst hm
 have h3 := endP_pos h
 have h4 := endP_le l
 have h5 : headP (l.drop (endP l + moreL (l.drop (endP l)))) = headF (l.length - 1) (l.drop (endP l + moreL (l.drop (endP l)))) := by
  unfold headP
  exact headF_fuel _ _ _ (Nat.le_refl _) (by rw [List.length_drop]; omega)
 rw [h5]
 unfold headP
 cases l with
 | nil => exact absurd rfl h
 | cons c r =>
  have h6 : moreL ((c :: r).drop (endP (c :: r))) = moreP (c :: r).length ((c :: r).drop (endP (c :: r))) := moreP_fuel _ _ _ (Nat.le_refl _) (by rw [List.length_drop]; omega)
  rw [h6]
  conv => lhs; rw [List.length_cons]
  conv => lhs; unfold headF
  rw [if_neg h, if_neg h2]
  rfl
def HeadPost (w : World) (q : List Fld × Nat) (e : Ending) (w' : World) : Prop := ∃ v, e = .returned (.tuple #[v, .int .i64 (q.2 : Nat)]) ∧ OwnFlds w' w.heap.size v q.1 ∧ Below w.heap.size w w'
theorem head_fin {w w' : World} {q : List Fld × Nat} {fs : List Fld} {k : Nat} {v : Value} {i : Int} (h : q = (fs, k)) (hi : i = (k : Int)) (ho : OwnFlds w' w.heap.size v fs) (hb : Below w.heap.size w w') : HeadPost w q (.returned (.tuple #[v, .int .i64 i])) w' := by
 subst h
 subst hi
 exact ⟨v, rfl, ho, hb⟩
structure HdRel (w : World) (l : List UInt8) (k : Nat) (fs : List Fld) (v : Value) (wr : World) : Prop where
 eq : headP l = (fs ++ (headP (l.drop k)).1, k + (headP (l.drop k)).2)
 own : OwnFlds wr w.heap.size v fs
 bel : Below w.heap.size w wr
 len : fs.length ≤ k
theorem cut_mid (l : List UInt8) (k m : Nat) : (ba l).extract k (k + m) = ba ((l.drop k).take m) := by rw [ba_cut, List.take_drop]
set_option maxRecDepth 100000 in
set_option maxHeartbeats 4000000 in
theorem hparse_any (l : List UInt8) (w : World) (hl : l.length ≤ 500000000) (hT : Tabs w) :
  Calls Tryz.prog 74 #[.string (ba l)] w (HeadPost w (headP l)) := by
 have HT := Lib.hid hT
 have HCM := Lib.hid (cut_mid l)
 have HCD := Lib.hid (ba_drop l)
 have HENV := Lib.hid (fun k W => hend_any (l.drop k) W (by rw [List.length_drop]; omega))
 have HNUD := Lib.hid (fun k m W => hbare_any ((l.drop k).take m) W (by rw [List.length_take, List.length_drop]; omega))
 have HGOE := Lib.hid (fun k W => hgoes_any (l.drop k) W)
 have HFLD := Lib.hid (fun k m W hW => hfield_any ((l.drop k).take m) W (by rw [List.length_take, List.length_drop]; omega) hW)
 obtain ⟨n, hn⟩ : ∃ n, l.length = n := ⟨_, rfl⟩
 have HL := Lib.hid hn
 obtain ⟨s, hs⟩ : ∃ s, ba l = s := ⟨_, rfl⟩
 have HS := Lib.hid hs
 have HZ := Lib.hid (show s.size = n by rw [← hs, ba_size, hn])
 have hsz : (s.size : Int) = n := by rw [HZ.out]
 rw [hs]
 rw [hn] at hl
 clear hs hn
 simp only [HS.out] at HCM HCD
 clear hT
 go_enter Tryz.func74, Tryz.ntmps74
 go_wp2
 go_loopw [4, 5, 6] (fun v i x wr => ∃ (k : Nat) (fs : List Fld) (y : Value), x = y ∧ k ≤ n ∧ i = .int .i64 (k : Int) ∧ Hid (HdRel w l k fs v wr)) (fun _ i _ _ => n - (intOf i).toNat)
 case atStart => exact ⟨0, [], _, rfl, Nat.zero_le _, rfl, Lib.hid ⟨by rw [List.drop_zero]; simp, OwnFlds.nil_ _ _, Below.refl _ _, Nat.le_refl _⟩⟩
 case round =>
  obtain ⟨k, fs, y, rfl, hk, rfl, HR⟩ := hrel
  have hszr := HR.out.bel.size
  by_cases hlt : k < n
  ·have hk2 : (k : Int) < (n : Int) := by omega
   have hk0 : (0 : Int) ≤ (k : Int) := by omega
   have hne : l.drop k ≠ [] := by
    intro h
    have := congrArg List.length h
    rw [List.length_drop, HL.out] at this
    simp at this
    omega
   have hdl : (l.drop k).length = n - k := by rw [List.length_drop, HL.out]
   have he1 := endP_pos hne
   have he2 := endP_le (l.drop k)
   have HHE := Lib.hid (headP_end hne)
   have HHG := Lib.hid (fun h m (hm : endP (l.drop k) + moreL ((l.drop k).drop (endP (l.drop k))) = m) => headP_go hne h hm)
   have HML := Lib.hid (moreL_le ((l.drop k).drop (endP (l.drop k))))
   have HEN := Lib.hid (HENV.out k)
   have hx1 := HCD.out k
   obtain ⟨E, hE⟩ : ∃ E, endP (l.drop k) = E := ⟨_, rfl⟩
   have HNU := Lib.hid (HNUD.out k E)
   simp only [hE] at HEN
   rw [hE] at HHE HML he1 he2
   simp only [hE] at HHG
   have hx2 := HCM.out k E
   have HX1 := Lib.hid hx1
   have HX2 := Lib.hid hx2
   have hkE : k + E ≤ n := by omega
   have hki : (k : Int) + (E : Int) ≤ (n : Int) := by omega
   have hE0 : (0 : Int) ≤ (E : Int) := by omega
   have hEi : (E : Int) ≤ 1000000000 := by omega
   have hki2 : (k : Int) ≤ 1000000000 := by omega
   have hke3 : (k : Int) ≤ (k : Int) + (E : Int) := by omega
   have hke4 : ((k : Int) + (E : Int)).toNat = k + E := by omega
   clear hE hx1 hx2 hne
   by_cases hnn : nudeP ((l.drop k).take E) = []
   ·have HF := Lib.hid (show headP l = (fs, k + E) by rw [HR.out.eq, HHE.out hnn, List.append_nil])
    have g1 : (ba (nudeP ((l.drop k).take E))).toList.isEmpty = true := by rw [ba_toList, hnn]; rfl
    have g2 : ((ba (nudeP ((l.drop k).take E))).toList == []) = true := by rw [ba_toList, hnn]; rfl
    clear hnn
    go_wp2_with fail
    rw [HX1.out]
    refine (HEN.out _).mono ?_
    rintro e w2 ⟨rfl, hw⟩
    have hw2 := hw.symm
    subst hw2
    clear hw
    go_wp2_with fail
    rw [HX2.out]
    refine (HNU.out _).mono ?_
    rintro e w2 ⟨rfl, hw⟩
    have hw2 := hw.symm
    subst hw2
    clear hw
    go_wp2
    go_ret2
    exact head_fin HF.out (by omega) HR.out.own HR.out.bel
   ·have g1 : (ba (nudeP ((l.drop k).take E))).toList.isEmpty = false := by rw [ba_toList]; simpa using hnn
    have g2 : ((ba (nudeP ((l.drop k).take E))).toList == []) = false := by rw [ba_toList]; simpa using hnn
    have HGG := Lib.hid (HHG.out hnn)
    clear hnn HHE HHG
    obtain ⟨M, hM⟩ : ∃ M, E + moreL ((l.drop k).drop E) = M := ⟨_, rfl⟩
    have HHM := Lib.hid (HGG.out M hM)
    have hMn : k + M ≤ n := by have := HML.out; rw [List.length_drop, hdl] at this; omega
    have hMM := Lib.hid hM
    clear hM HGG hdl
    go_wp2_with fail
    rw [HX1.out]
    refine (HEN.out _).mono ?_
    rintro e w2 ⟨rfl, hw⟩
    have hw2 := hw.symm
    subst hw2
    clear hw
    go_wp2_with fail
    rw [HX2.out]
    refine (HNU.out _).mono ?_
    rintro e w2 ⟨rfl, hw⟩
    have hw2 := hw.symm
    subst hw2
    clear hw
    go_wp2
    obtain ⟨w9, rfl⟩ : ∃ w9, w9 = wr := ⟨_, rfl⟩
    go_loop [6] (fun x => ∃ (N : Nat), E ≤ N ∧ N ≤ M ∧ x = .int .i64 (N : Int) ∧ Hid (N + moreL ((l.drop k).drop N) = M)) (fun x => M - (intOf x).toNat)
    case atStart => exact ⟨E, Nat.le_refl _, by have := hMM.out; omega, rfl, hMM⟩
    case round =>
     obtain ⟨N, hEN, hNM, rfl, HN⟩ := hrel
     have hkN : (k : Int) + (N : Int) ≤ (n : Int) := by omega
     have hN0 : (0 : Int) ≤ (N : Int) := by omega
     have hNi : (N : Int) ≤ 1000000000 := by omega
     have hkN0 : (0 : Int) ≤ (k : Int) + (N : Int) := by omega
     have hkNt : ((k : Int) + (N : Int)).toNat = k + N := by omega
     have hxN := HCD.out (k + N)
     have hdd : (l.drop k).drop N = l.drop (k + N) := List.drop_drop
     have HXN := Lib.hid hxN
     have HNN := Lib.hid (show N + moreL (l.drop (k + N)) = M by rw [← hdd]; exact HN.out)
     have HGO := Lib.hid (HGOE.out (k + N))
     clear hxN hdd HN
     cases hg : goesP (l.drop (k + N)) with
     | true =>
      have HNX := Lib.hid (moreL_yes hg)
      have hlen2 := endP_le (l.drop (k + N))
      have hpos2 := endP_pos (goes_ne hg)
      rw [List.length_drop, HL.out] at hlen2
      have HE2 := Lib.hid (HENV.out (k + N))
      rw [List.drop_drop] at HNX
      simp only [hg] at HGO
      obtain ⟨e2, he2'⟩ : ∃ e, endP (l.drop (k + N)) = e := ⟨_, rfl⟩
      rw [he2'] at hlen2 hpos2 HNX
      simp only [he2'] at HE2
      have he0 : (0 : Int) ≤ (e2 : Int) := by omega
      have hei : (e2 : Int) ≤ 1000000000 := by omega
      have HN2 := Lib.hid (show (N + e2) + moreL ((l.drop k).drop (N + e2)) = M by
       have h1 := HNN.out
       have h2 := HNX.out
       rw [List.drop_drop, show k + (N + e2) = k + N + e2 by omega]
       omega)
      have hle9 : N + e2 ≤ M := by have := HN2.out; omega
      clear hg he2' HNX hlen2
      go_wp2_with fail
      rw [HXN.out]
      refine (HGO.out _).mono ?_
      rintro e w2 ⟨rfl, hw⟩
      have hw2 := hw.symm
      subst hw2
      clear hw
      go_wp2_with fail
      rw [HXN.out]
      refine (HE2.out _).mono ?_
      rintro e w2 ⟨rfl, hw⟩
      have hw2 := hw.symm
      subst hw2
      clear hw
      go_wp2
      go_round
      case rel => exact ⟨N + e2, by omega, hle9, by go_num, HN2⟩
      case measure => simp [intOf] <;> omega
     | false =>
      have HNX := Lib.hid (moreL_no hg)
      simp only [hg] at HGO
      obtain rfl : N = M := by have h1 := HNN.out; have h2 := HNX.out; omega
      clear hg HNX
      have HFI := Lib.hid (fun W hW => HFLD.out k N W hW)
      have hxm := HCM.out k N
      have HXM := Lib.hid hxm
      have HQ := Lib.hid (show headP l = ((fs ++ [fldP ((l.drop k).take N)]) ++ (headP (l.drop (k + N))).1, (k + N) + (headP (l.drop (k + N))).2) by
       rw [HR.out.eq, HHM.out, List.drop_drop]
       simp [Nat.add_assoc])
      unfold FldPost fldV at HFI
      obtain ⟨⟨f1, f2, f3, f4⟩, hf⟩ : ∃ f, fldP ((l.drop k).take N) = f := ⟨_, rfl⟩
      simp only [hf] at HFI
      rw [hf] at HQ
      have HOWN := Lib.hid HR.out.own
      have HBEL := Lib.hid HR.out.bel
      have HFL := Lib.hid (show fs.length ≤ 1000000000 by have := HR.out.len; omega)
      have HFK := Lib.hid HR.out.len
      have hkk : (k : Int) ≤ (k : Int) + (N : Int) := by omega
      clear hf hxm HR
      go_wp2_with fail
      rw [HXN.out]
      refine (HGO.out _).mono ?_
      rintro e w2 ⟨rfl, hw⟩
      have hw2 := hw.symm
      subst hw2
      clear hw
      go_wp2_with fail
      rw [HXM.out]
      refine (HFI.out _ (HT.out.below HBEL.out)).mono ?_
      rintro e w2 ⟨rfl, hb2⟩
      have HO2 := Lib.hid (HOWN.out.below hb2)
      have HB2 := Lib.hid (HBEL.out.trans (hb2.mono hszr))
      have hs2 := HB2.out.size
      have HGR := Lib.hid (show ∀ q, Value.ownBlock _ = some q → w.heap.size ≤ q from fun q e => (HOWN.out.row.lt q e).1)
      clear hb2
      go_wp2_with (at_builtin; go_must (refine wpList_pushFld (W := w2) HO2.out hs2 trivial HFL.out rfl (.tmp 41) (.tmp 49) 1 rfl rfl (by show Value.slice (some ⟨w2.heap.size, 0, none⟩) 1 1 = _; simp) ?_); intro v6 w6 h1 h2; (have HN6 := Lib.hid (show HdRel w l (k + N) (fs ++ [⟨f1, f2, f3, f4⟩]) v6 w6 from ⟨HQ.out, h1, HB2.out.grown h2 hs2 fun q e => HGR.out q e, by rw [List.length_append]; have := HFK.out; simp; omega⟩); clear h1 h2))
      go_roundw
      case rel => exact ⟨k + N, _, _, rfl, by omega, by go_num, HN6⟩
      case measure => simp [intOf] <;> omega
  ·obtain rfl : k = n := by omega
   have HF := Lib.hid (show headP l = (fs, k) by
    rw [HR.out.eq, List.drop_of_length_le (by rw [HL.out]; exact Nat.le_refl _), headP_nil, List.append_nil]
    rfl)
   go_wp2
   go_ret2
   exact head_fin HF.out rfl HR.out.own HR.out.bel
end Go.Proofs.YthidbmeaccpjdaaGreatDoor
end
section
namespace Go.Proofs.YthidbmeaccpjdaaGreatDoor
open Go.RowKit
set_option linter.unusedVariables false
set_option maxRecDepth 100000 in
set_option maxHeartbeats 4000000 in
theorem hdsmall_any (l : List UInt8) (w : World) (hl : l.length ≤ 1000000000) :
  Calls Tryz.prog 196 #[.string (ba l)] w (StrB w (smallP l)) := by
 have hcv := fun (W : World) (S : ByteArray) => run_bytes_of_string (P := Tryz.prog) W 9 62 5 S Tryz.underlying9 Tryz.underlying62 Tryz.underlying5
 have HR0 := Lib.hid (fun (cap m : Nat) (hm : l.length ≤ m) => ByteRow.of_string w l cap 5 m hm)
 obtain ⟨n, hn⟩ : ∃ n, l.length = n := ⟨_, rfl⟩
 have HL := Lib.hid hn
 obtain ⟨s, hs⟩ : ∃ s, ba l = s := ⟨_, rfl⟩
 have HS := Lib.hid hs
 have HZ := Lib.hid (show s.size = n by rw [← hs, ba_size, hn])
 have hsz : (s.size : Int) = n := by rw [HZ.out]
 rw [hs]
 rw [hn] at hl
 clear hs hn
 rw [HS.out] at HR0
 go_enter Tryz.func196, Tryz.ntmps196
 go_wp2
 obtain ⟨C, hC⟩ : ∃ C, grownCap w s.size 0 5 = C := ⟨_, rfl⟩
 have HCN := Lib.hid (show l.length ≤ (bytesRow s C).size by rw [bytesRow_size s C (by rw [← hC]; have := grownCap_ge w s.size 0 5; omega), ← hC, HL.out]; have := grownCap_ge w s.size 0 5; omega)
 rw [hC]
 clear hC hcv
 go_loopw [10] (fun i wr => ∃ k : Nat, k ≤ n ∧ i = .int .i64 (k : Int) ∧ Hid (SmRel w l k wr)) (fun i _ => n - (intOf i).toNat)
 case atStart =>
  refine ⟨0, Nat.zero_le _, rfl, Lib.hid ⟨?_, (Below.refl _ _).drew.alloc (Nat.le_refl _) _⟩⟩
  rw [show smallP (l.take 0) ++ l.drop 0 = l from rfl]
  exact (HR0.out C _ HCN.out).drew
 case round =>
  obtain ⟨k, hk, rfl, HR⟩ := hrel
  have hsz2 := HR.out.bel.size
  by_cases hlt : k < n
  ·have hk2 : (k : Int) < (n : Int) := by omega
   have hk3 : (k : Int) < (s.size : Int) := by omega
   have hk0 : (0 : Int) ≤ (k : Int) := by omega
   have hkl : k < l.length := by rw [HL.out]; exact hlt
   have hks : k < (smallP (l.take k) ++ l.drop k).length := by rw [sm_len]; exact hkl
   have hcell := HR.out.row.cell hks
   have hfree := HR.out.row.free hks
   rw [sm_get hkl hks] at hcell
   have HST := Lib.hid (sm_step hkl)
   have HSA := Lib.hid (sm_same hkl)
   have HSET := Lib.hid (HR.out.row.set hks (smallB l[k]))
   obtain ⟨c, hc⟩ : ∃ c, l[k] = c := ⟨_, rfl⟩
   rw [hc] at hcell HST HSA HSET
   have HY := Lib.hid (smallB_yes (c := c))
   have HNO := Lib.hid (smallB_no (c := c))
   obtain ⟨x, hx⟩ : ∃ x : Int, (c.toNat : Int) = x := ⟨_, rfl⟩
   rw [hx] at hcell HY HNO
   have hx0 : 0 ≤ x := by omega
   have hx1 : x ≤ 255 := by have := c.toNat_lt; omega
   have HX := Lib.hid hx
   clear hc hkl hks hx
   by_cases e1 : 65 ≤ x
   ·by_cases e2 : x ≤ 90
    ·have g1 : decide (65 ≤ x) = true := decide_eq_true e1
     have g2 : decide (x ≤ 90) = true := decide_eq_true e2
     have HV := Lib.hid (show (smallB c).toNat = x + 32 by rw [HY.out ⟨e1, e2⟩]; have := HX.out; have := c.toNat_lt; simp; omega)
     go_wp2
     go_roundw
     case rel =>
      refine ⟨k + 1, by omega, by go_num, Lib.hid ⟨?_, HR.out.bel.setCell (Nat.le_refl _) _⟩⟩
      rw [HST.out]
      have := HSET.out
      rw [HV.out] at this
      exact this
     case measure => simp [intOf] <;> omega
    ·have g1 : decide (65 ≤ x) = true := decide_eq_true e1
     have g2 : decide (x ≤ 90) = false := decide_eq_false e2
     have HV := Lib.hid (HSA.out (HNO.out fun h => e2 h.2))
     clear hfree
     go_wp2
     go_roundw
     case rel =>
      refine ⟨k + 1, by omega, by go_num, Lib.hid ⟨?_, HR.out.bel⟩⟩
      rw [HV.out]
      exact HR.out.row
     case measure => simp [intOf] <;> omega
   ·have g1 : decide (65 ≤ x) = false := decide_eq_false e1
    have HV := Lib.hid (HSA.out (HNO.out fun h => e1 h.1))
    clear hfree
    go_wp2
    go_roundw
    case rel =>
     refine ⟨k + 1, by omega, by go_num, Lib.hid ⟨?_, HR.out.bel⟩⟩
     rw [HV.out]
     exact HR.out.row
    case measure => simp [intOf] <;> omega
  ·obtain rfl : k = n := by omega
   have hrow : ByteRow wr w.heap.size (smallP l) := by
    have := HR.out.row
    rw [List.take_of_length_le (by rw [HL.out]; exact Nat.le_refl _), List.drop_of_length_le (by rw [HL.out]; exact Nat.le_refl _), List.append_nil] at this
    exact this
   have hback := run_convert_bytes_back (P := Tryz.prog) wr 62 9 5 ⟨w.heap.size, 0, none⟩ C (smallP l) Tryz.underlying62 Tryz.underlying5 Tryz.underlying9 hrow.cells
   rw [smallP_len, HL.out, ← HZ.out] at hback
   clear hrow hsz
   go_wp2
   go_ret
   exact ⟨rfl, HR.out.bel⟩
end Go.Proofs.YthidbmeaccpjdaaGreatDoor
end
