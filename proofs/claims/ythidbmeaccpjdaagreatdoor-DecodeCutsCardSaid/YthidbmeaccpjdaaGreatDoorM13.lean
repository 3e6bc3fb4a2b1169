/- Rows of [2]int in memory: read, owned, grown by one or by a row (printed by gen_row.py). Layer 14: lines and bodies: their contracts. Layer 14: bodies: its state. A region that draws its order, within a round: as without. Layer 14: bodies: its region that draws its order (printed by gen_reg6.py). -/
import Derived.OrdersIn
import Derived.RangeFuncCalls
import Derived.TacticsIn
import Derived.Shelf.Abstract
import Derived.Shelf.RegionOpen
import Derived.Test.YthidbmeaccpjdaaGreatDoorM01
import Derived.Test.YthidbmeaccpjdaaGreatDoorM12
import Derived.Test.YthidbmeaccpjdaaGreatDoorM09
import Derived.Test.YthidbmeaccpjdaaGreatDoorM08
section
namespace Go.Proofs.YthidbmeaccpjdaaGreatDoor
open Go.RowKit
set_option linter.unusedVariables false
theorem pr_info : (Tryz.prog.info? 53).map (fun i => (i.zero, i.size, i.bytes)) = some (some (.agg #[.int .i64 0, .int .i64 0]), 2, 16) := by kernel_rfl
def prCells (t : (Int × Int)) : List Value := [.int .i64 (t.1), .int .i64 (t.2)]
def PrOk (t : (Int × Int)) : Prop := (-9223372036854775808 ≤ t.1 ∧ t.1 ≤ 9223372036854775807) ∧ (-9223372036854775808 ≤ t.2 ∧ t.2 ≤ 9223372036854775807)
def Prs (w : World) (B : Nat) (A : Option Addr) (n : Nat) (ts : List ((Int × Int))) : Prop :=
 n = ts.length ∧ ∀ k (hk : k < ts.length), ∃ ad, A = some ad ∧ (ad.add (k * 2)).block < B ∧ w.cell? (ad.add (k * 2)) = some (.int .i64 (ts[k].1)) ∧ w.cell? ⟨(ad.add (k * 2)).block, (ad.add (k * 2)).off + 1, none⟩ = some (.int .i64 (ts[k].2)) ∧ PrOk ts[k]
section
variable {w w' : World} {B B' n : Nat} {A : Option Addr} {ts : List ((Int × Int))}
theorem Prs.below (h : Prs w B A n ts) (hb : Below B w w') : Prs w' B A n ts := by
 refine ⟨h.1, fun k hk => ?_⟩
 obtain ⟨ad, e, h1, c0, c1, h5⟩ := h.2 k hk
 exact ⟨ad, e, h1, (hb.cell h1).trans c0, (hb.cell (p := ⟨(ad.add (k * 2)).block, _, none⟩) h1).trans c1, h5⟩
theorem Prs.more (h : Prs w B A n ts) (hB : B ≤ B') : Prs w B' A n ts := by
 refine ⟨h.1, fun k hk => ?_⟩
 obtain ⟨ad, e, h1, h2⟩ := h.2 k hk
 exact ⟨ad, e, Nat.lt_of_lt_of_le h1 hB, h2⟩
theorem Prs.nil_ : Prs w B A 0 [] := ⟨rfl, fun k hk => by simp at hk⟩
theorem Prs.len (h : Prs w B A n ts) : ts.length = n := h.1.symm
theorem Prs.cutA (h : Prs w B A n ts) (k : Nat) (hk : k ≤ n) : Prs w B A k (ts.take k) := by
 refine ⟨by rw [List.length_take, h.len]; omega, fun j hj => ?_⟩
 rw [List.length_take] at hj
 have := h.2 j (by omega)
 rw [List.getElem_take]
 exact this
theorem Prs.cutB {ad : Addr} (h : Prs w B (some ad) n ts) (k : Nat) (hk : k ≤ n) : Prs w B (some (ad.add (k * 2))) (n - k) (ts.drop k) := by
 refine ⟨by rw [List.length_drop, h.len], fun j hj => ?_⟩
 rw [List.length_drop] at hj
 obtain ⟨ad', e, r⟩ := h.2 (k + j) (by omega)
 injection e with e
 subst e
 refine ⟨_, rfl, ?_⟩
 rw [add_add', show k * 2 + j * 2 = (k + j) * 2 by omega, List.getElem_drop]
 exact r
end
structure OwnPrs (w : World) (B : Nat) (v : Value) (ts : List ((Int × Int))) : Prop where
 row : w.ownsRow B 53 2 v ts.length (ts.flatMap prCells)
 each : ∀ t, t ∈ ts → PrOk t
theorem OwnPrs.nil_ (w : World) (B : Nat) : OwnPrs w B (.slice none 0 0) [] := ⟨World.ownsRow_nil _ _ _ _, fun t h => by cases h⟩
theorem OwnPrs.below {w w' : World} {B : Nat} {v : Value} {ts : List ((Int × Int))} (h : OwnPrs w B v ts) (hb : Below w.heap.size w w') : OwnPrs w' B v ts :=
 ⟨ownsRow_block h.row fun b e => hb.block b (h.row.lt b e).2, h.each⟩
theorem OwnPrs.block {w w' : World} {B : Nat} {v : Value} {ts : List ((Int × Int))} (h : OwnPrs w B v ts) (hb : ∀ b, v.ownBlock = some b → w'.heap[b]? = w.heap[b]?) : OwnPrs w' B v ts := ⟨ownsRow_block h.row hb, h.each⟩
theorem OwnPrs.more {w : World} {B B' : Nat} {v : Value} {ts : List ((Int × Int))} (h : OwnPrs w B v ts) (hB : B' ≤ B) : OwnPrs w B' v ts := by
 obtain ⟨⟨h0, h1⟩, h2⟩ := h
 refine ⟨⟨h0, ?_⟩, h2⟩
 rcases h1 with h1 | ⟨g, cap, cur, e, hb, r⟩
 ·exact .inl h1
 ·exact .inr ⟨g, cap, cur, e, by omega, r⟩
theorem pr_len (ts : List ((Int × Int))) : (ts.flatMap prCells).length = ts.length * 2 := by induction ts with | nil => rfl | cons a r ih => simp [prCells] at ih ⊢; omega
theorem pr_get : ∀ (ts : List ((Int × Int))) j (hj : j < ts.length) i (hi : i < 2), (ts.flatMap prCells)[j * 2 + i]? = (prCells ts[j])[i]? := fun ts => by
 induction ts with
 | nil => intro j hj; simp at hj
 | cons a r ih =>
  intro j hj i hi
  cases j with
  | zero =>
   simp only [List.flatMap_cons, List.getElem_cons_zero, Nat.zero_mul, Nat.zero_add]
   rw [List.getElem?_append_left (by simp [prCells]; omega)]
  | succ j =>
   have := ih j (by simpa using hj) i hi
   simp only [List.flatMap_cons, List.getElem_cons_succ]
   rw [List.getElem?_append_right (by simp [prCells]; omega), show (j + 1) * 2 + i - (prCells a).length = j * 2 + i by simp [prCells]; omega]
   exact this
theorem pr_addS (a : Addr) {i : Nat} (hi : i ≠ 0) : a.add i = ⟨a.block, a.off + i, none⟩ := by unfold Addr.add; rw [if_neg hi]
theorem OwnPrs.reads {w : World} {B : Nat} {v : Value} {ts : List ((Int × Int))} (h : OwnPrs w B v ts) : ∃ A c, v = .slice A ts.length c ∧ ts.length ≤ c ∧ c ≤ maxLen ∧ Prs w w.heap.size A ts.length ts := by
 have h0 := h.row
 rcases h0.2 with ⟨rfl, hn⟩ | ⟨g, cap, cur, rfl, hb, hg, q1, q2, q3⟩
 ·have : ts = [] := List.eq_nil_of_length_eq_zero hn
  subst this
  exact ⟨none, 0, rfl, Nat.le_refl _, by simp, Prs.nil_⟩
 ·refine ⟨_, cap, rfl, q1, q2, rfl, fun k hk => ?_⟩
  have hc : ∀ i u, i < 2 → (prCells ts[k])[i]? = some u → w.cell? ⟨g, k * 2 + i, none⟩ = some u := fun i u hi hu => by
   have := h0.cells (g := g) rfl (k * 2 + i) u (by rw [pr_get ts k hk i hi]; exact hu)
   unfold Addr.add at this
   by_cases e0 : k * 2 + i = 0
   ·rw [if_pos e0] at this; rw [e0]; exact this
   ·rw [if_neg e0] at this; rw [Nat.zero_add] at this; exact this
  have e1 : (Addr.add ⟨g, 0, none⟩ (k * 2)) = ⟨g, k * 2, none⟩ := by
   unfold Addr.add
   split
   ·rename_i e0; rw [e0]
   ·rw [Nat.zero_add]
  refine ⟨⟨g, 0, none⟩, rfl, by rw [add_block]; exact heap_lt hg, ?_, ?_, h.each _ (List.getElem_mem hk)⟩
  ·rw [e1]; exact hc 0 _ (by omega) rfl
  ·rw [e1]; exact hc 1 _ (by omega) rfl
theorem OwnPrs.unfrozen {w : World} {B n c : Nat} {ad : Addr} {ts : List ((Int × Int))} (h : OwnPrs w B (.slice (some ad) n c) ts) (i : Nat) : w.frozen? ⟨ad.block, i, none⟩ = false ∧ ad.block < w.heap.size := by
 rcases h.row.2 with ⟨e, _⟩ | ⟨g', cap, cur, e, _, hg, _⟩
 ·cases e
 ·injection e with e
  injection e with e
  subst e
  exact ⟨by simp [World.frozen?, hg], heap_lt hg⟩
theorem pr_one (l : List ((Int × Int))) : ∀ u ∈ l.flatMap prCells, u.oneCell' = true := by
 intro u hu
 obtain ⟨t, _, ht⟩ := List.mem_flatMap.1 hu
 simp only [prCells, List.mem_cons, List.not_mem_nil, or_false] at ht
 rcases ht with rfl | rfl <;> rfl
set_option maxRecDepth 100000 in
theorem run_pushPr {W : World} {B : Nat} {v : Value} {ts : List ((Int × Int))} {x0 : Int} {x1 : Int} (hT : OwnPrs W B v ts) (hB : B ≤ W.heap.size) (hf : PrOk (⟨x0, x1⟩ : (Int × Int))) (hlen : ts.length ≤ 1000000000) (c : Nat) (ty : TypeId) :
  ∃ v' w', (Builtin.append_ #[51, 51] ty #[v, .slice (some ⟨W.heap.size, 0, none⟩) 1 c]).run Tryz.prog (W.alloc (.cells #[.int .i64 x0, .int .i64 x1] 53)) = .ok v' w' ∧ OwnPrs w' B v' (ts ++ [(⟨x0, x1⟩ : (Int × Int))]) ∧ W.grownBy w' v.ownBlock := by
 obtain ⟨i0, hi, hz0, hz1, hz2⟩ := info_parts pr_info
 obtain ⟨v', w', hrun, h1, h2, _, h4⟩ := run_append_own_at (P := Tryz.prog) (W.alloc (.cells #[.int .i64 x0, .int .i64 x1] 53)) B 51 ty 53 i0 _ 2 16 Tryz.underlying51 hi hz0 hz1 hz2 rfl (by omega) v ts.length (ts.flatMap prCells) (World.ownsRow.alloc hT.row _) ⟨W.heap.size, 0, none⟩ 1 c (prCells (⟨x0, x1⟩ : (Int × Int))) rfl (World.news_of_block (MapKept.heap_alloc W _).1) (fun u hu => pr_one [(⟨x0, x1⟩ : (Int × Int))] u (by simpa using hu)) (by simp only [maxLen]; omega) (by omega) (by simp; omega)
 have h5 := World.grownBy_alloc W (.cells #[.int .i64 x0, .int .i64 x1] 53) v.ownBlock
 refine ⟨v', w', hrun, ⟨by simpa using h1, fun t ht => ?_⟩, ⟨h2.os.trans h5.os, h2.tape.trans h5.tape, h2.output.trans h5.output, Nat.le_trans h5.size h2.size, fun k hk hne => (h2.block k (by simp; omega) hne).trans (h5.block k hk hne)⟩⟩
 rcases List.mem_append.1 ht with ht | ht
 ·exact hT.each t ht
 ·rw [List.mem_singleton] at ht; subst ht; exact hf
theorem wp_pushPr {o : Oper} {a : Act} {K : Act → World → Prop} {W : World} {Q : Exit → Act → World → Prop} {B : Nat} {v : Value} {ts : List ((Int × Int))} {x0 : Int} {x1 : Int} (hT : OwnPrs W B v ts) (hB : B ≤ W.heap.size) (hf : PrOk (⟨x0, x1⟩ : (Int × Int)))
  (hlen : ts.length ≤ 1000000000) (s y : Operand) (c : Nat)
  (ho : o.op = .call { callee := .builtin .append, args := #[s, y], argTypes := #[51, 51] }) (hs : a.eval s = v) (hx : a.eval y = .slice (some ⟨W.heap.size, 0, none⟩) 1 c)
  (h : ∀ v' w', OwnPrs w' B v' (ts ++ [(⟨x0, x1⟩ : (Int × Int))]) → W.grownBy w' v.ownBlock → K (a.put o.dst v') w') : o.wp Tryz.prog a (W.alloc (.cells #[.int .i64 x0, .int .i64 x1] 53)) K Q := by
 obtain ⟨v', w', hrun, h1, h2⟩ := run_pushPr hT hB hf hlen c o.type
 unfold Oper.wp execOp
 simp only [ho, resolve, invoke, builtin, Sem.run_bind, Sem.run_pure, Result.andThen_ok, List.map_toArray, List.map_cons, List.map_nil, hs, hx, hrun]
 exact h v' w' h1 h2
theorem step_pushPr {ops : Array Oper} {o : Oper} {a : Act} {W : World} {K : Act → World → Prop} {Q : Exit → Act → World → Prop} {E : Prop} {B : Nat} {v : Value} {ts : List ((Int × Int))} {x0 : Int} {x1 : Int} (hT : OwnPrs W B v ts) (hB : B ≤ W.heap.size) (hf : PrOk (⟨x0, x1⟩ : (Int × Int)))
  (hlen : ts.length ≤ 1000000000) (hgd : o.guard = none) (s y : Operand) (c : Nat)
  (ho : o.op = .call { callee := .builtin .append, args := #[s, y], argTypes := #[51, 51] }) (hs : a.eval s = v) (hx : a.eval y = .slice (some ⟨W.heap.size, 0, none⟩) 1 c)
  (h : ∀ v' w', OwnPrs w' B v' (ts ++ [(⟨x0, x1⟩ : (Int × Int))]) → W.grownBy w' v.ownBlock → K (a.put o.dst v') w') :
  if Region.wanted o (yielded ops a.tmps) = true then Oper.wp Tryz.prog o a (W.alloc (.cells #[.int .i64 x0, .int .i64 x1] 53)) K Q else E := by
 have hw : Region.wanted o (yielded ops a.tmps) = true := by simp [Region.wanted, hgd]
 rw [if_pos hw]
 exact wp_pushPr hT hB hf hlen s y c ho hs hx h
theorem wpList_pushPr {ops : Array Oper} {rest : List Oper} {o : Oper} {a : Act} {W : World} {Q : Exit → Act → World → Prop} {B : Nat} {v : Value} {ts : List ((Int × Int))} {x0 : Int} {x1 : Int} (hT : OwnPrs W B v ts) (hB : B ≤ W.heap.size) (hf : PrOk (⟨x0, x1⟩ : (Int × Int)))
  (hlen : ts.length ≤ 1000000000) (hgd : o.guard = none) (s y : Operand) (c : Nat)
  (ho : o.op = .call { callee := .builtin .append, args := #[s, y], argTypes := #[51, 51] }) (hs : a.eval s = v) (hx : a.eval y = .slice (some ⟨W.heap.size, 0, none⟩) 1 c)
  (h : ∀ v' w', OwnPrs w' B v' (ts ++ [(⟨x0, x1⟩ : (Int × Int))]) → W.grownBy w' v.ownBlock → wpList Tryz.prog ops Q rest (a.put o.dst v') w') :
  wpList Tryz.prog ops Q (o :: rest) a (W.alloc (.cells #[.int .i64 x0, .int .i64 x1] 53)) :=
 wpList_plain hgd fun _ hK => wp_pushPr hT hB hf hlen s y c ho hs hx fun v' w' h2 h3 => hK _ _ (h v' w' h2 h3)
theorem Prs.cells {w : World} {B m : Nat} {ad : Addr} {l : List ((Int × Int))} (h : Prs w B (some ad) m l) : ∀ j u, (l.flatMap prCells)[j]? = some u → w.cell? (ad.add j) = some u := by
 intro j u hu
 have hj : j < l.length * 2 := by have := (List.getElem?_eq_some_iff.1 hu).1; rw [pr_len] at this; exact this
 obtain ⟨k, i, hi, rfl⟩ : ∃ k i, i < 2 ∧ j = k * 2 + i := ⟨j / 2, j % 2, by omega, by omega⟩
 have hk : k < l.length := by omega
 rw [pr_get l k hk i hi] at hu
 obtain ⟨ad', e, _, c0, c1, _⟩ := h.2 k hk
 injection e with e
 subst e
 rw [← add_add']
 match i, hi with
 | 0, _ =>
  have hu' : Value.int .i64 (l[k].1) = u := Option.some.inj hu
  subst hu'
  have e0 : (ad.add (k * 2)).add 0 = ad.add (k * 2) := by unfold Addr.add; rfl
  rw [e0]; exact c0
 | 1, _ =>
  have hu' : Value.int .i64 (l[k].2) = u := Option.some.inj hu
  subst hu'
  rw [pr_addS _ (by decide)]; exact c1
set_option maxRecDepth 100000 in
theorem run_nonePr (w : World) (B : Nat) (t ty : TypeId) (ht : Tryz.prog.underlying t = some (.slice 53)) (v : Value) (acc : List ((Int × Int))) (hown : OwnPrs w B v acc) (c : Nat) : (Builtin.append_ #[t, t] ty #[v, .slice none 0 c]).run Tryz.prog w = .ok v w := by
 obtain ⟨i0, hi, hz0, hz1, hz2⟩ := info_parts pr_info
 rcases hown.row.2 with ⟨rfl, _⟩ | ⟨g, cap, cur, rfl, _, _, hnc, _⟩
 ·simp [Builtin.append_, run_underlying ht, sizeOf, typeInfo, hi, Builtin.lenOf, Builtin.firstCells]
 ·simp [Builtin.append_, run_underlying ht, sizeOf, typeInfo, hi, Builtin.lenOf, Builtin.firstCells, hnc, storeCells]
set_option maxRecDepth 100000 in
theorem run_joinPr (w : World) (B : Nat) (t ty : TypeId) (ht : Tryz.prog.underlying t = some (.slice 53)) (v : Value) (acc : List ((Int × Int))) (hown : OwnPrs w B v acc) (hB : B ≤ w.heap.size)
  (D : Nat) (A : Option Addr) (m c : Nat) (l : List ((Int × Int))) (hr : Prs w D A m l) (hlen : acc.length + m ≤ 1000000000) :
  ∃ v' w', (Builtin.append_ #[t, t] ty #[v, .slice A m c]).run Tryz.prog w = .ok v' w' ∧ OwnPrs w' B v' (acc ++ l) ∧ w.grownBy w' v.ownBlock ∧ (v'.ownBlock = v.ownBlock ∨ ∃ k, v'.ownBlock = some k ∧ w.heap.size ≤ k) := by
 obtain ⟨i0, hi, hz0, hz1, hz2⟩ := info_parts pr_info
 have hml := hr.len
 rcases A with _ | ad
 ·have hl : l = [] := by
   cases l with
   | nil => rfl
   | cons a r => obtain ⟨ad, e, _⟩ := hr.2 0 (by simp); cases e
  subst hl
  obtain rfl : m = 0 := hml.symm
  exact ⟨v, w, run_nonePr w B t ty ht v acc hown c, by simpa using hown, World.grownBy.refl w _, .inl rfl⟩
 ·obtain ⟨v', w', hrun, h2, h3, _, h5⟩ := run_append_own_at (P := Tryz.prog) w B t ty 53 i0 _ 2 16 ht hi hz0 hz1 hz2 rfl (by omega) v acc.length (acc.flatMap prCells) hown.row ad m c (l.flatMap prCells) (by rw [pr_len, hml]) hr.cells (pr_one l) (by simp only [maxLen]; omega) (by omega) hB
  refine ⟨v', w', hrun, ⟨?_, fun t ht => ?_⟩, h3, ?_⟩
  ·rw [List.flatMap_append, List.length_append, hml]; exact h2
  ·rcases List.mem_append.1 ht with ht | ht
   ·exact hown.each t ht
   ·obtain ⟨k, hk, rfl⟩ := List.getElem_of_mem ht
    obtain ⟨_, _, _, _, _, hb⟩ := hr.2 k hk
    exact hb
  ·rcases h5 with h | h
   ·exact .inl h
   ·exact .inr ⟨_, h, Nat.le_refl _⟩
theorem wpList_joinPr {ops : Array Oper} {rest : List Oper} {o : Oper} {a : Act} {w : World} {Q : Exit → Act → World → Prop} {B : Nat} {v : Value} {acc : List ((Int × Int))} (hown : OwnPrs w B v acc) (hB : B ≤ w.heap.size)
  {D : Nat} {A : Option Addr} {m : Nat} {l : List ((Int × Int))} (hr : Prs w D A m l) (hlen : acc.length + m ≤ 1000000000) (hgd : o.guard = none) (s x : Operand) (t : TypeId) (c : Nat)
  (ho : o.op = .call { callee := .builtin .append, args := #[s, x], argTypes := #[t, t] }) (ht : Tryz.prog.underlying t = some (.slice 53)) (hs : a.eval s = v) (hx : a.eval x = .slice A m c)
  (h : ∀ v' w', OwnPrs w' B v' (acc ++ l) → w.grownBy w' v.ownBlock → (v'.ownBlock = v.ownBlock ∨ ∃ k, v'.ownBlock = some k ∧ w.heap.size ≤ k) → wpList Tryz.prog ops Q rest (a.put o.dst v') w') : wpList Tryz.prog ops Q (o :: rest) a w := by
 refine wpList_plain hgd fun K hK => ?_
 obtain ⟨v', w', hrun, h2, h3, h4⟩ := run_joinPr w B t o.type ht v acc hown hB D A m c l hr hlen
 unfold Oper.wp execOp
 simp only [ho, resolve, invoke, builtin, Sem.run_bind, Sem.run_pure, Result.andThen_ok, List.map_toArray, List.map_cons, List.map_nil, hs, hx, hrun]
 exact hK _ _ (h v' w' h2 h3 h4)
end Go.Proofs.YthidbmeaccpjdaaGreatDoor
end
section
namespace Go.Proofs.YthidbmeaccpjdaaGreatDoor
open Go.RowKit
set_option linter.unusedVariables false
open Go.Shelf
attribute [local go_sem] Oper.semAt_some
def bodG (s b : List UInt8) : List (Nat × Nat) → Option Nat → List (Nat × Nat)
 | [], none => []
 | [], some o => [(o, s.length)]
 | x :: r, o => if (bndP ((s.take x.2).drop x.1) b).1 = true then
   (match o with
    | some y => [(y, aheadP s y x.1)]
    | none => []) ++ if (bndP ((s.take x.2).drop x.1) b).2 = true then [] else bodG s b r (some x.2)
  else bodG s b r o
theorem bodG_eq (s b : List UInt8) : ∀ (ls : List (List UInt8)) (a : Nat) (o : Option Nat), ls.flatten = s.drop a → a ≤ s.length → bodF s b ls a o = bodG s b (lnR ls a) o
 | [], _, none, _, _ => rfl
 | [], _, some _, _, _ => rfl
 | l :: r, a, o, h, ha => by
  have h1 : (s.take (a + l.length)).drop a = l := by
   rw [List.flatten_cons] at h
   rw [List.drop_take, ← h, show a + l.length - a = l.length by omega, List.take_left]
  have h2 : a + l.length ≤ s.length := by
   have := congrArg List.length h
   rw [List.flatten_cons, List.length_append, List.length_drop] at this
   omega
  have h3 : r.flatten = s.drop (a + l.length) := by
   rw [List.flatten_cons] at h
   rw [← List.drop_drop, ← h, List.drop_left]
  unfold bodF lnR bodG
  dsimp only
  rw [h1, bodG_eq s b r _ _ h3 h2, bodG_eq s b r _ _ h3 h2]
  cases o <;> rfl
theorem bodies_eq (s : List UInt8) (i : Nat) (b : List UInt8) (h : i ≤ s.length) : bodiesP s i b = bodG s b (lnsP s i) none := by
 unfold bodiesP lnsP
 exact bodG_eq s b _ _ _ (linesP_flat _) h
set_option maxRecDepth 100000 in
set_option maxHeartbeats 4000000 in
theorem lines_any (s : List UInt8) (i : Nat) (w : World) :
  Calls Tryz.prog 145 #[.string (ba s), .int .i64 (i : Int)] w fun e w' => e = .returned (.func (.func 193) #[] #[.pointer (some ⟨w.heap.size + 1, 0, none⟩), .pointer (some ⟨w.heap.size, 0, none⟩)]) ∧ w' = (w.alloc (.cells #[.string (ba s)] 9)).alloc (.cells #[.int .i64 (i : Int)] 3) := by
 go_enter Tryz.func145, Tryz.ntmps145
 go_wp2
 go_ret
 exact ⟨rfl, rfl⟩
structure LnX (s : List UInt8) where
 v : Nat × Nat
 le : v.1 ≤ v.2
 ls : v.2 ≤ s.length
theorem keeps2_set {bf k : Nat} {A B : World} {o : Obj} (h : setsC bf A B) (hk : A.heap[k]? = some o) (ho : o.isCells = false) : B.heap[k]? = some o := by
 obtain ⟨v, rfl⟩ := h
 exact (KeepsOthers.setCell A ⟨bf, 0, none⟩ v).same k o hk ho
theorem lines_seq (s : List UInt8) (i bf bs : Nat) (w : World) (hl : s.length ≤ 1000000000) (hi : i ≤ s.length) (hne : bf ≠ bs) (hf : w.heap[bf]? = some (.cells #[.int .i64 (i : Int)] 3 (0, 0))) (hs : w.heap[bs]? = some (.cells #[.string (ba s)] 9 (0, 0))) :
  SeqC Fence.wide 8 Tryz.prog 193 #[.pointer (some ⟨bf, 0, none⟩), .pointer (some ⟨bs, 0, none⟩)] (fun x : LnX s => #[.int .i64 (x.v.1 : Nat), .int .i64 (x.v.2 : Nat)]) (setsC bf) (keeps2 bf bs)
   (fun xs => xs.map LnX.v = lnsP s i) (fun xs => xs.map LnX.v <+: lnsP s i) (lnsP s i).length w := by
 intro l J Jx W hW hJ hJx hY h0
 have hlf := heap_lt hf
 have hls := heap_lt hs
 refine CallsIn.mono (lines1_in l bf bs i s (fun pre W => ∃ q : List (LnX s), q.map LnX.v = pre ∧ J q W) (fun pre W => ∃ q : List (LnX s), q.map LnX.v = pre ∧ Jx q W) hl hi hne (fun _ A B ⟨q, h1, h2⟩ h => ⟨q, h1, hJ _ _ _ h2 h⟩) ?_ W ((hW.block _ hlf).trans hf) ((hW.block _ hls).trans hs) ⟨[], rfl, h0⟩) ?_
 ·rintro pre x W1 ⟨q, rfl, hj⟩ hlen h1 h2
  refine (hY q ⟨x, h1, h2⟩ W1 hj (by rw [List.length_map] at hlen; exact hlen)).mono ?_
  rintro e W2 (⟨rfl, hj2, hk⟩ | ⟨rfl, hj2⟩)
  ·exact .inl ⟨rfl, ⟨_, by simp, hj2⟩, hk⟩
  ·exact .inr ⟨rfl, ⟨_, by simp, hj2⟩⟩
 ·rintro e W2 ⟨he, (⟨ys, rfl, q, hq, hj⟩ | ⟨pre, hp, q, rfl, hj⟩)⟩
  ·exact ⟨he, .inl ⟨q, hq, hj⟩⟩
  ·exact ⟨he, .inr ⟨q, hp, hj⟩⟩
end Go.Proofs.YthidbmeaccpjdaaGreatDoor
end
section
namespace Go.Proofs.YthidbmeaccpjdaaGreatDoor
open Go.RowKit
set_option linter.unusedVariables false
open Go.Shelf
attribute [local go_sem] Oper.semAt_some
def pairI (x : Nat × Nat) : Int × Int := ((x.1 : Int), (x.2 : Int))
def opnI : Option Nat → Int
 | none => -1
 | some x => (x : Int)
theorem OwnPrs.isCells {W : World} {B : Nat} {v : Value} {ts : List (Int × Int)} (h : OwnPrs W B v ts) {b : Nat} (e : v.ownBlock = some b) : B ≤ b ∧ ∃ o, W.heap[b]? = some o ∧ o.isCells = true := by
 rcases h.row.2 with ⟨rfl, _⟩ | ⟨g, cap, cur, rfl, hb, hg, _⟩
 ·cases e
 ·cases e
  exact ⟨hb, _, hg, rfl⟩
theorem OwnPrs.set {W : World} {B k : Nat} {v u : Value} {ts : List (Int × Int)} (h : OwnPrs W B v ts) (hk : k < B) : OwnPrs (W.setCell ⟨k, 0, none⟩ u) B v ts :=
 h.block fun b e => Go.RowKit.Below.heap_setCell _ _ _ _ (fun e2 => by have := (h.isCells e).1; dsimp only at e2; omega)
structure BdSt (N : Nat) (s b : List UInt8) (out : List (Nat × Nat)) (o : Option Nat) (W : World) : Prop where
 cs : W.heap[N]? = some (.cells #[.string (ba s)] 9 (0, 0))
 cb : W.heap[N + 1]? = some (.cells #[.string (ba b)] 9 (0, 0))
 cr : W.heap[N + 2]? = some (.cells #[.slice none 0 0] 51 (0, 0))
 co : ∃ v, W.heap[N + 3]? = some (.cells #[v] 51 (0, 0)) ∧ OwnPrs W (N + 7) v (out.map pairI)
 cn : W.heap[N + 4]? = some (.cells #[.int .i64 (opnI o)] 3 (0, 0))
section
variable {N : Nat} {s b : List UInt8} {out : List (Nat × Nat)} {o : Option Nat} {W W' : World}
theorem BdSt.keep (h : BdSt N s b out o W) (hk : ∀ k o, W.heap[k]? = some o → o.isCells = true → k ≠ N + 6 → W'.heap[k]? = W.heap[k]?) : BdSt N s b out o W' := by
 obtain ⟨c0, c1, c2, ⟨v, c3, c5⟩, c4⟩ := h
 refine ⟨(hk _ _ c0 rfl (by omega)).trans c0, (hk _ _ c1 rfl (by omega)).trans c1, (hk _ _ c2 rfl (by omega)).trans c2, ⟨v, (hk _ _ c3 rfl (by omega)).trans c3, c5.block fun b e => ?_⟩, (hk _ _ c4 rfl (by omega)).trans c4⟩
 obtain ⟨h1, o, h2, h3⟩ := c5.isCells e
 exact hk _ _ h2 h3 (by omega)
theorem BdSt.below (h : BdSt N s b out o W) (hb : Below W.heap.size W W') : BdSt N s b out o W' := h.keep fun k _ hk _ _ => hb.block k (heap_lt hk)
theorem BdSt.own {row : Option Nat} (h : BdSt N s b out o W) (hg : W.grownBy W' row) (hr : ∀ r, row = some r → ∃ o : Obj, W.heap[r]? = some o ∧ o.isCells = false) : BdSt N s b out o W' :=
 h.keep fun k _ hk hc _ => grownBy_keeps_cells hg hr hk hc
theorem BdSt.sets (h : BdSt N s b out o W) (hs : setsC (N + 6) W W') : BdSt N s b out o W' := by
 obtain ⟨v, rfl⟩ := hs
 exact h.keep fun k _ _ _ hne => Go.RowKit.Below.heap_setCell _ _ _ _ hne
theorem BdSt.opn (h : BdSt N s b out o W) (t : Nat) : BdSt N s b out (some t) (W.setCell ⟨N + 4, 0, none⟩ (.int .i64 (t : Int))) := by
 obtain ⟨c0, c1, c2, ⟨v, c3, c5⟩, c4⟩ := h
 have hh : ∀ k, k ≠ N + 4 → (W.setCell ⟨N + 4, 0, none⟩ (.int .i64 (t : Int))).heap[k]? = W.heap[k]? := fun k hk => Go.RowKit.Below.heap_setCell _ _ _ _ hk
 exact ⟨(hh _ (by omega)).trans c0, (hh _ (by omega)).trans c1, (hh _ (by omega)).trans c2, ⟨v, (hh _ (by omega)).trans c3, c5.set (by omega)⟩, Lib.heap_setCell_same (i := 0) c4 _⟩
end
structure RdB (w : World) (s b : List UInt8) (W0 : World) (out : List (Nat × Nat)) (o : Option Nat) (W : World) : Prop where
 st : BdSt w.heap.size s b out o W
 ko : KeepsOthers W0 W
 kp : keeps2 (w.heap.size + 6) (w.heap.size + 5) W0 W
 bel : Below w.heap.size w W
section
variable {w W0 W W' : World} {s b : List UInt8} {out : List (Nat × Nat)} {o : Option Nat}
theorem RdB.size (h : RdB w s b W0 out o W) : w.heap.size + 4 < W.heap.size := heap_lt h.st.cn
theorem KeepsOthers.ofBelow (hb : Below W.heap.size W W') : KeepsOthers W W' := ⟨hb.size, fun k o hk _ => (hb.block k (heap_lt hk)).trans hk⟩
theorem RdB.below (h : RdB w s b W0 out o W) (h7 : w.heap.size + 6 < W.heap.size) (hb : Below W.heap.size W W') : RdB w s b W0 out o W' :=
 ⟨h.st.below hb, h.ko.trans (KeepsOthers.ofBelow hb), ⟨(hb.block _ h7).trans h.kp.1, (hb.block _ (by omega)).trans h.kp.2⟩, h.bel.trans (hb.mono (by have := h.size; omega))⟩
theorem RdB.opn (h : RdB w s b W0 out o W) (t : Nat) : RdB w s b W0 out (some t) (W.setCell ⟨w.heap.size + 4, 0, none⟩ (.int .i64 (t : Int))) :=
 ⟨h.st.opn t, h.ko.trans (KeepsOthers.setCell _ _ _), ⟨(Go.RowKit.Below.heap_setCell _ _ _ _ (by simp)).trans h.kp.1, (Go.RowKit.Below.heap_setCell _ _ _ _ (by simp)).trans h.kp.2⟩, h.bel.setCell (p := ⟨w.heap.size + 4, 0, none⟩) (by simp) _⟩
theorem RdB.push (h : RdB w s b W0 out o W) (h7 : w.heap.size + 6 < W.heap.size) {v v' : Value} {x : Nat × Nat} (hv : W.heap[w.heap.size + 3]? = some (.cells #[v] 51 (0, 0))) (hw : OwnPrs W (w.heap.size + 7) v (out.map pairI)) (hp : OwnPrs W' (w.heap.size + 7) v' (out.map pairI ++ [pairI x])) (hg : W.grownBy W' v.ownBlock) :
  RdB w s b W0 (out ++ [x]) o (W'.setCell ⟨w.heap.size + 3, 0, none⟩ v') := by
 have hne : ∀ k, k < w.heap.size + 7 → W'.heap[k]? = W.heap[k]? := fun k hk => hg.block k (by omega) (fun e => by have := (hw.isCells e.symm).1; omega)
 have hh : ∀ k, k ≠ w.heap.size + 3 → (W'.setCell ⟨w.heap.size + 3, 0, none⟩ v').heap[k]? = W'.heap[k]? := fun k hk => Go.RowKit.Below.heap_setCell _ _ _ _ hk
 obtain ⟨c0, c1, c2, -, c4⟩ := h.st
 refine ⟨⟨(hh _ (by omega)).trans ((hne _ (by omega)).trans c0), (hh _ (by omega)).trans ((hne _ (by omega)).trans c1), (hh _ (by omega)).trans ((hne _ (by omega)).trans c2), ⟨v', Lib.heap_setCell_same (i := 0) ((hne _ (by omega)).trans hv) _, by rw [List.map_append]; exact hp.set (by omega)⟩, (hh _ (by omega)).trans ((hne _ (by omega)).trans c4)⟩, ?_, ⟨(hh _ (by omega)).trans ((hne _ (by omega)).trans h.kp.1), (hh _ (by omega)).trans ((hne _ (by omega)).trans h.kp.2)⟩, ?_⟩
 ·refine h.ko.trans (KeepsOthers.trans ⟨hg.size, fun k o hk ho => ?_⟩ (KeepsOthers.setCell _ _ _))
  refine (hg.block k (heap_lt hk) (fun e => ?_)).trans hk
  obtain ⟨_, o2, h2, h3⟩ := hw.isCells e.symm
  rw [hk] at h2
  cases h2
  rw [ho] at h3
  cases h3
 ·exact (h.bel.grown hg (by have := h.size; omega) (fun k e => by have := (hw.isCells e).1; omega)).setCell (p := ⟨w.heap.size + 3, 0, none⟩) (by simp) _
end
theorem aheadP_no {s : List UInt8} {o a : Nat} (h : ¬ o < a) : aheadP s o a = a := by unfold aheadP; rw [if_neg (fun e => h e.1)]
theorem aheadP_no2 {s : List UInt8} {o a : Nat} (h : s[a - 1]? ≠ some 10) : aheadP s o a = a := by unfold aheadP; rw [if_neg (fun e => h e.2)]
theorem aheadP_one {s : List UInt8} {o a : Nat} (h : o < a) (h1 : s[a - 1]? = some 10) (h2 : ¬ o < a - 1) : aheadP s o a = a - 1 := by unfold aheadP; rw [if_pos ⟨h, h1⟩, if_neg (fun e => h2 e.1)]
theorem aheadP_one2 {s : List UInt8} {o a : Nat} (h : o < a) (h1 : s[a - 1]? = some 10) (h2 : s[a - 1 - 1]? ≠ some 13) : aheadP s o a = a - 1 := by unfold aheadP; rw [if_pos ⟨h, h1⟩, if_neg (fun e => h2 e.2)]
theorem aheadP_two {s : List UInt8} {o a : Nat} (h : o < a) (h1 : s[a - 1]? = some 10) (h2 : o < a - 1) (h3 : s[a - 1 - 1]? = some 13) : aheadP s o a = a - 1 - 1 := by unfold aheadP; rw [if_pos ⟨h, h1⟩, if_pos ⟨h2, h3⟩]
end Go.Proofs.YthidbmeaccpjdaaGreatDoor
end
section
namespace Go.Proofs.YthidbmeaccpjdaaGreatDoor
open Go.RowKit
set_option linter.unusedVariables false
def noDefer (ops : Array Oper) : Bool := ops.all fun o => match o.op with | .defer _ => false | _ => true
theorem noDefer_spec {ops : Array Oper} (h : noDefer ops = true) {i : Nat} {o : Oper} (hi : ops[i]? = some o) (c : _) : o.op ≠ .defer c := by
 intro e
 have hm : o ∈ ops := Array.mem_of_getElem? hi
 have := Array.all_eq_true_iff_forall_mem.1 h o hm
 rw [e] at this
 cases this
section
variable {F : Fence} {n : Nat} {P : Program} {ops : Array Oper} {Q : Exit → Act → World → Prop} {md : Region.Mode}
theorem wpIn_round {l : Nat} {o : Oper} {a : Act} {w : World} {K : Act → World → Prop} (hro : F.round = none) (hd : ∀ c, o.op ≠ .defer c) (h : o.wpIn F n P a w K Q) : o.wpIn (F.inRound l) n P a w K Q := by
 unfold Oper.wpIn at h ⊢
 rw [Fence.inRound_round, Oper.semAt_some _ _ _ hd]
 rw [hro, Oper.semAt_none] at h
 exact h
theorem wpAnyIn_round {l : Nat} (hro : F.round = none) (hd : noDefer ops = true) : ∀ (fuel : Nat) (listed : Array Bool) (a : Act) (w : World), wpAnyIn F n P md ops Q fuel listed a w → wpAnyIn (F.inRound l) n P md ops Q fuel listed a w
 | 0, _, _, _, h => h
 | fuel + 1, listed, a, w, h => by
  refine ⟨h.1, fun i hi => ?_⟩
  have h2 := wpOpIn_mono (fun a w => wpAnyIn_round (l := l) hro hd fuel _ a w) (h.2 i hi)
  unfold wpOpIn at h2 ⊢
  cases ho : ops[i]? with
  | none => rw [ho] at h2; exact h2
  | some o =>
   rw [ho] at h2
   dsimp only at h2 ⊢
   split
   ·rename_i hw
    rw [if_pos hw] at h2
    exact wpIn_round hro (noDefer_spec hd ho) h2
   ·rename_i hw
    rw [if_neg hw] at h2
    exact h2
end
end Go.Proofs.YthidbmeaccpjdaaGreatDoor
end
section
namespace Go.Proofs.YthidbmeaccpjdaaGreatDoor
open Go.RowKit
set_option linter.unusedVariables false
open Go.Shelf
attribute [local go_sem] Oper.semAt_some
set_option maxRecDepth 100000 in
set_option maxHeartbeats 4000000 in
theorem region6_any (s b : List UInt8) (i l : Nat) (x : LnX s) (w W : World) (q : Bool × Bool) (hq : bndP ((s.take x.v.2).drop x.v.1) b = q) (hl : s.length ≤ 1000000000) (hb : b.length ≤ 1000000000000000) (c0 : W.cell? ⟨w.heap.size, 0, none⟩ = some (.string (ba s))) (c1 : W.cell? ⟨w.heap.size + 1, 0, none⟩ = some (.string (ba b))) :
  (Code.region 6 #[{ dst := some 20, op := Op.load 9 (Operand.tmp 3), type := 9, pos := "mime.go:48", after := #[], guard := none }, { dst := some 21, op := Op.move (Operand.tmp 9), type := 3, pos := "mime.go:48", after := #[], guard := none }, { dst := some 22, op := Op.move (Operand.tmp 10), type := 3, pos := "mime.go:48", after := #[], guard := none }, { dst := some 23, op := Op.slice 9 (Operand.tmp 20) (some (Operand.tmp 21)) (some (Operand.tmp 22)) none, type := 9, pos := "mime.go:48", after := #[{ on := 0, ground := Ground.data }, { on := 1, ground := Ground.data }, { on := 2, ground := Ground.data }], guard := none }, { dst := some 24, op := Op.load 9 (Operand.tmp 5), type := 9, pos := "mime.go:48", after := #[], guard := none }, { dst := some 25, op := Op.call { callee := Callee.value (Operand.func 146), args := #[Operand.tmp 23, Operand.tmp 24], argTypes := #[9, 9] }, type := 159, pos := "mime.go:48", after := #[{ on := 3, ground := Ground.data }, { on := 4, ground := Ground.data }], guard := none }, { dst := some 19, op := Op.move (Operand.tmp 25), type := 159, pos := "mime.go:48", after := #[{ on := 5, ground := Ground.data }], guard := none }, { dst := some 26, op := Op.extract (Operand.tmp 19) 0, type := 4, pos := "mime.go:48", after := #[{ on := 6, ground := Ground.data }], guard := none }, { dst := some 27, op := Op.extract (Operand.tmp 19) 1, type := 4, pos := "mime.go:48", after := #[{ on := 6, ground := Ground.data }, { on := 9, ground := Ground.gcOnly Departure.lateStores }], guard := none }, { dst := some 11, op := Op.assign (Operand.tmp 26), type := 4, pos := "mime.go:48", after := #[{ on := 7, ground := Ground.data }, { on := 5, ground := Ground.chain }, { on := 0, ground := Ground.phase }, { on := 1, ground := Ground.phase }, { on := 2, ground := Ground.phase }, { on := 3, ground := Ground.phase }, { on := 4, ground := Ground.phase }, { on := 5, ground := Ground.phase }, { on := 6, ground := Ground.phase }, { on := 7, ground := Ground.phase }, { on := 8, ground := Ground.textOnly Departure.lateStores }], guard := none }, { dst := some 12, op := Op.assign (Operand.tmp 27), type := 4, pos := "mime.go:48", after := #[{ on := 8, ground := Ground.data }, { on := 9, ground := Ground.chain }, { on := 0, ground := Ground.phase }, { on := 1, ground := Ground.phase }, { on := 2, ground := Ground.phase }, { on := 3, ground := Ground.phase }, { on := 4, ground := Ground.phase }, { on := 5, ground := Ground.phase }, { on := 6, ground := Ground.phase }, { on := 7, ground := Ground.phase }, { on := 8, ground := Ground.phase }, { on := 9, ground := Ground.phase }], guard := none }] true).wpIn (Fence.wide.inRound l) 7 Tryz.prog (fun e a' W' => e = .normal ∧ a' = { tmps := #[.string (ba s), .int .i64 (i : Int), .string (ba b), .pointer (some ⟨w.heap.size, 0, none⟩), undef, .pointer (some ⟨w.heap.size + 1, 0, none⟩), .pointer (some ⟨w.heap.size + 2, 0, none⟩), .pointer (some ⟨w.heap.size + 3, 0, none⟩), .pointer (some ⟨w.heap.size + 4, 0, none⟩), .int .i64 (x.v.1 : Nat), .int .i64 (x.v.2 : Nat), .bool q.1, .bool q.2, undef, .string (ba s), .int .i64 (i : Int), .func (.func 193) #[] #[.pointer (some ⟨w.heap.size + 6, 0, none⟩), .pointer (some ⟨w.heap.size + 5, 0, none⟩)], .int .i64 (x.v.1 : Nat), .int .i64 (x.v.2 : Nat), .tuple #[.bool q.1, .bool q.2], .string (ba s), .int .i64 (x.v.1 : Nat), .int .i64 (x.v.2 : Nat), .string (ba ((s.take x.v.2).drop x.v.1)), .string (ba b), .tuple #[.bool q.1, .bool q.2], .bool q.1, .bool q.2, undef, undef, undef, undef, undef, undef, undef, undef, undef, undef, undef, undef, undef, undef, undef, undef, undef, undef, undef, undef, undef, undef, undef, undef, undef, undef, undef, undef, undef, undef, undef, undef, undef, undef, undef, undef, undef, undef, undef, undef, undef, undef, undef, undef, undef, undef, undef, undef], defers := [] } ∧ Below W.heap.size W W') { tmps := #[.string (ba s), .int .i64 (i : Int), .string (ba b), .pointer (some ⟨w.heap.size, 0, none⟩), undef, .pointer (some ⟨w.heap.size + 1, 0, none⟩), .pointer (some ⟨w.heap.size + 2, 0, none⟩), .pointer (some ⟨w.heap.size + 3, 0, none⟩), .pointer (some ⟨w.heap.size + 4, 0, none⟩), .int .i64 (x.v.1 : Nat), .int .i64 (x.v.2 : Nat), undef, undef, undef, .string (ba s), .int .i64 (i : Int), .func (.func 193) #[] #[.pointer (some ⟨w.heap.size + 6, 0, none⟩), .pointer (some ⟨w.heap.size + 5, 0, none⟩)], .int .i64 (x.v.1 : Nat), .int .i64 (x.v.2 : Nat), undef, undef, undef, undef, undef, undef, undef, undef, undef, undef, undef, undef, undef, undef, undef, undef, undef, undef, undef, undef, undef, undef, undef, undef, undef, undef, undef, undef, undef, undef, undef, undef, undef, undef, undef, undef, undef, undef, undef, undef, undef, undef, undef, undef, undef, undef, undef, undef, undef, undef, undef, undef, undef, undef, undef, undef, undef], defers := [] } W := by
 have hle := x.le
 have hls := x.ls
 have HB := Lib.hid (fun W => boundary_any ((s.take x.v.2).drop x.v.1) b W (by simp; omega) hb)
 unfold BndPost at HB
 rw [hq] at HB
 have hx : (ba s).extract x.v.1 x.v.2 = ba ((s.take x.v.2).drop x.v.1) := ba_cut _ _ _
 have hz : ((ba s).size : Int) = (s.length : Int) := by rw [ba_size]
 have h1 : ((x.v.1 : Nat) : Int) ≤ ((x.v.2 : Nat) : Int) := by omega
 have h2 : ((x.v.2 : Nat) : Int) ≤ (s.length : Int) := by omega
 have h3 : ¬ ((x.v.2 : Nat) : Int) < ((x.v.1 : Nat) : Int) := by omega
 refine wpIn_region_any (by kernel_rfl) (wpAnyIn_round rfl (by kernel_rfl) _ _ _ _ ?_)
 change wpAnyIn _ _ _ _ _ _ _ _ _ (World.drew _)
 obtain ⟨V, hV⟩ : ∃ V, W.drew = V := ⟨_, rfl⟩
 have HV := Lib.hid (show Below W.heap.size W V by rw [← hV]; exact (Below.refl _ _).drew)
 have d0 : V.cell? ⟨w.heap.size, 0, none⟩ = some (.string (ba s)) := by rw [← hV]; exact c0
 have d1 : V.cell? ⟨w.heap.size + 1, 0, none⟩ = some (.string (ba b)) := by rw [← hV]; exact c1
 rw [hV]
 clear hV c0 c1 hq
 refine wpAnyIn_take (i := 1) (oi := { dst := some 21, op := Op.move (Operand.tmp 9), type := 3, pos := "mime.go:48", after := #[], guard := none }) (v := ?_) rfl rfl (by kernel_rfl) (by kernel_rfl) (by kernel_rfl) (fun _ _ _ h => nomatch h.1) ⟨Or.inl ⟨by rfl, ?_⟩, fun _ => rfl⟩ ?_
 rotate_left
 ·(intro w9; go_simp; all_goals with_reducible rfl)
 try simp only [Act.put, List.setIfInBounds_toArray, List.set_cons_zero, List.set_cons_succ]
 refine wpAnyIn_take (i := 2) (oi := { dst := some 22, op := Op.move (Operand.tmp 10), type := 3, pos := "mime.go:48", after := #[], guard := none }) (v := ?_) rfl rfl (by kernel_rfl) (by kernel_rfl) (by kernel_rfl) (fun _ _ _ h => nomatch h.1) ⟨Or.inl ⟨by rfl, ?_⟩, fun _ => rfl⟩ ?_
 rotate_left
 ·(intro w9; go_simp; all_goals with_reducible rfl)
 try simp only [Act.put, List.setIfInBounds_toArray, List.set_cons_zero, List.set_cons_succ]
 refine wpAnyIn_ready (rs := [0, 4]) (by kernel_rfl) (by simp) ?_
 refine AllReadyIn.cons (o := { dst := some 20, op := Op.load 9 (Operand.tmp 3), type := 9, pos := "mime.go:48", after := #[], guard := none }) rfl (fun K hK => ?_) (AllReadyIn.cons (o := { dst := some 24, op := Op.load 9 (Operand.tmp 5), type := 9, pos := "mime.go:48", after := #[], guard := none }) rfl (fun K hK => ?_) AllReadyIn.nil)
 ·have HC := Lib.hid hK
  clear hK
  go_simp
  refine HC.out _ _ ?_
  clear HC K
  try simp only [Act.put, List.setIfInBounds_toArray, List.set_cons_zero, List.set_cons_succ]
  refine wpAnyIn_take (i := 3) (oi := { dst := some 23, op := Op.slice 9 (Operand.tmp 20) (some (Operand.tmp 21)) (some (Operand.tmp 22)) none, type := 9, pos := "mime.go:48", after := #[{ on := 0, ground := Ground.data }, { on := 1, ground := Ground.data }, { on := 2, ground := Ground.data }], guard := none }) (v := ?_) rfl rfl (by kernel_rfl) (by kernel_rfl) (by kernel_rfl) (fun _ _ _ h => nomatch h.1) ⟨Or.inl ⟨by rfl, ?_⟩, fun _ => rfl⟩ ?_
  rotate_left
  ·(intro w9; go_simp; all_goals with_reducible rfl)
  try simp only [Act.put, List.setIfInBounds_toArray, List.set_cons_zero, List.set_cons_succ]
  refine wpAnyIn_ready (rs := [4]) (by kernel_rfl) (by simp) ?_
  refine AllReadyIn.cons (o := { dst := some 24, op := Op.load 9 (Operand.tmp 5), type := 9, pos := "mime.go:48", after := #[], guard := none }) rfl (fun K hK => ?_) AllReadyIn.nil
  have HC := Lib.hid hK
  clear hK
  go_simp
  refine HC.out _ _ ?_
  clear HC K
  try simp only [Act.put, List.setIfInBounds_toArray, List.set_cons_zero, List.set_cons_succ]
  refine wpAnyIn_ready (rs := [5]) (by kernel_rfl) (by simp) ?_
  refine AllReadyIn.cons (o := { dst := some 25, op := Op.call { callee := Callee.value (Operand.func 146), args := #[Operand.tmp 23, Operand.tmp 24], argTypes := #[9, 9] }, type := 159, pos := "mime.go:48", after := #[{ on := 3, ground := Ground.data }, { on := 4, ground := Ground.data }], guard := none }) rfl (fun K hK => ?_) AllReadyIn.nil
  have HC := Lib.hid hK
  clear hK
  go_simp
  (first | refine ⟨trivial, ?_⟩ | refine ⟨fun _ _ => trivial, ?_⟩ | skip)
  refine (callsIn_wide.2 (HB.out V)).mono ?_
  rintro e V1 ⟨rfl, hb⟩
  refine HC.out _ _ ?_
  clear HC K
  try simp only [Act.put, List.setIfInBounds_toArray, List.set_cons_zero, List.set_cons_succ]
  refine wpAnyIn_take (i := 6) (oi := { dst := some 19, op := Op.move (Operand.tmp 25), type := 159, pos := "mime.go:48", after := #[{ on := 5, ground := Ground.data }], guard := none }) (v := ?_) rfl rfl (by kernel_rfl) (by kernel_rfl) (by kernel_rfl) (fun _ _ _ h => nomatch h.1) ⟨Or.inl ⟨by rfl, ?_⟩, fun _ => rfl⟩ ?_
  rotate_left
  ·(intro w9; go_simp; all_goals with_reducible rfl)
  try simp only [Act.put, List.setIfInBounds_toArray, List.set_cons_zero, List.set_cons_succ]
  refine wpAnyIn_take (i := 7) (oi := { dst := some 26, op := Op.extract (Operand.tmp 19) 0, type := 4, pos := "mime.go:48", after := #[{ on := 6, ground := Ground.data }], guard := none }) (v := ?_) rfl rfl (by kernel_rfl) (by kernel_rfl) (by kernel_rfl) (fun _ _ _ h => nomatch h.1) ⟨Or.inl ⟨by rfl, ?_⟩, fun _ => rfl⟩ ?_
  rotate_left
  ·(intro w9; go_simp; all_goals with_reducible rfl)
  try simp only [Act.put, List.setIfInBounds_toArray, List.set_cons_zero, List.set_cons_succ]
  refine wpAnyIn_take (i := 8) (oi := { dst := some 27, op := Op.extract (Operand.tmp 19) 1, type := 4, pos := "mime.go:48", after := #[{ on := 6, ground := Ground.data }, { on := 9, ground := Ground.gcOnly Departure.lateStores }], guard := none }) (v := ?_) rfl rfl (by kernel_rfl) (by kernel_rfl) (by kernel_rfl) (fun _ _ _ h => nomatch h.1) ⟨Or.inl ⟨by rfl, ?_⟩, fun _ => rfl⟩ ?_
  rotate_left
  ·(intro w9; go_simp; all_goals with_reducible rfl)
  try simp only [Act.put, List.setIfInBounds_toArray, List.set_cons_zero, List.set_cons_succ]
  refine wpAnyIn_take (i := 9) (oi := { dst := some 11, op := Op.assign (Operand.tmp 26), type := 4, pos := "mime.go:48", after := #[{ on := 7, ground := Ground.data }, { on := 5, ground := Ground.chain }, { on := 0, ground := Ground.phase }, { on := 1, ground := Ground.phase }, { on := 2, ground := Ground.phase }, { on := 3, ground := Ground.phase }, { on := 4, ground := Ground.phase }, { on := 5, ground := Ground.phase }, { on := 6, ground := Ground.phase }, { on := 7, ground := Ground.phase }, { on := 8, ground := Ground.textOnly Departure.lateStores }], guard := none }) (v := ?_) rfl rfl (by kernel_rfl) (by kernel_rfl) (by kernel_rfl) (fun _ _ _ h => nomatch h.1) ⟨Or.inl ⟨by rfl, ?_⟩, fun _ => rfl⟩ ?_
  rotate_left
  ·(intro w9; go_simp; all_goals with_reducible rfl)
  try simp only [Act.put, List.setIfInBounds_toArray, List.set_cons_zero, List.set_cons_succ]
  refine wpAnyIn_take (i := 10) (oi := { dst := some 12, op := Op.assign (Operand.tmp 27), type := 4, pos := "mime.go:48", after := #[{ on := 8, ground := Ground.data }, { on := 9, ground := Ground.chain }, { on := 0, ground := Ground.phase }, { on := 1, ground := Ground.phase }, { on := 2, ground := Ground.phase }, { on := 3, ground := Ground.phase }, { on := 4, ground := Ground.phase }, { on := 5, ground := Ground.phase }, { on := 6, ground := Ground.phase }, { on := 7, ground := Ground.phase }, { on := 8, ground := Ground.phase }, { on := 9, ground := Ground.phase }], guard := none }) (v := ?_) rfl rfl (by kernel_rfl) (by kernel_rfl) (by kernel_rfl) (fun _ _ _ h => nomatch h.1) ⟨Or.inl ⟨by rfl, ?_⟩, fun _ => rfl⟩ ?_
  rotate_left
  ·(intro w9; go_simp; all_goals with_reducible rfl)
  try simp only [Act.put, List.setIfInBounds_toArray, List.set_cons_zero, List.set_cons_succ]
  refine wpAnyIn_done (by kernel_rfl) ?_ _
  exact ⟨rfl, rfl, HV.out.trans (hb.mono HV.out.size)⟩
 ·have HC := Lib.hid hK
  clear hK
  go_simp
  refine HC.out _ _ ?_
  clear HC K
  try simp only [Act.put, List.setIfInBounds_toArray, List.set_cons_zero, List.set_cons_succ]
  refine wpAnyIn_ready (rs := [0]) (by kernel_rfl) (by simp) ?_
  refine AllReadyIn.cons (o := { dst := some 20, op := Op.load 9 (Operand.tmp 3), type := 9, pos := "mime.go:48", after := #[], guard := none }) rfl (fun K hK => ?_) AllReadyIn.nil
  have HC := Lib.hid hK
  clear hK
  go_simp
  refine HC.out _ _ ?_
  clear HC K
  try simp only [Act.put, List.setIfInBounds_toArray, List.set_cons_zero, List.set_cons_succ]
  refine wpAnyIn_take (i := 3) (oi := { dst := some 23, op := Op.slice 9 (Operand.tmp 20) (some (Operand.tmp 21)) (some (Operand.tmp 22)) none, type := 9, pos := "mime.go:48", after := #[{ on := 0, ground := Ground.data }, { on := 1, ground := Ground.data }, { on := 2, ground := Ground.data }], guard := none }) (v := ?_) rfl rfl (by kernel_rfl) (by kernel_rfl) (by kernel_rfl) (fun _ _ _ h => nomatch h.1) ⟨Or.inl ⟨by rfl, ?_⟩, fun _ => rfl⟩ ?_
  rotate_left
  ·(intro w9; go_simp; all_goals with_reducible rfl)
  try simp only [Act.put, List.setIfInBounds_toArray, List.set_cons_zero, List.set_cons_succ]
  refine wpAnyIn_ready (rs := [5]) (by kernel_rfl) (by simp) ?_
  refine AllReadyIn.cons (o := { dst := some 25, op := Op.call { callee := Callee.value (Operand.func 146), args := #[Operand.tmp 23, Operand.tmp 24], argTypes := #[9, 9] }, type := 159, pos := "mime.go:48", after := #[{ on := 3, ground := Ground.data }, { on := 4, ground := Ground.data }], guard := none }) rfl (fun K hK => ?_) AllReadyIn.nil
  have HC := Lib.hid hK
  clear hK
  go_simp
  (first | refine ⟨trivial, ?_⟩ | refine ⟨fun _ _ => trivial, ?_⟩ | skip)
  refine (callsIn_wide.2 (HB.out V)).mono ?_
  rintro e V1 ⟨rfl, hb⟩
  refine HC.out _ _ ?_
  clear HC K
  try simp only [Act.put, List.setIfInBounds_toArray, List.set_cons_zero, List.set_cons_succ]
  refine wpAnyIn_take (i := 6) (oi := { dst := some 19, op := Op.move (Operand.tmp 25), type := 159, pos := "mime.go:48", after := #[{ on := 5, ground := Ground.data }], guard := none }) (v := ?_) rfl rfl (by kernel_rfl) (by kernel_rfl) (by kernel_rfl) (fun _ _ _ h => nomatch h.1) ⟨Or.inl ⟨by rfl, ?_⟩, fun _ => rfl⟩ ?_
  rotate_left
  ·(intro w9; go_simp; all_goals with_reducible rfl)
  try simp only [Act.put, List.setIfInBounds_toArray, List.set_cons_zero, List.set_cons_succ]
  refine wpAnyIn_take (i := 7) (oi := { dst := some 26, op := Op.extract (Operand.tmp 19) 0, type := 4, pos := "mime.go:48", after := #[{ on := 6, ground := Ground.data }], guard := none }) (v := ?_) rfl rfl (by kernel_rfl) (by kernel_rfl) (by kernel_rfl) (fun _ _ _ h => nomatch h.1) ⟨Or.inl ⟨by rfl, ?_⟩, fun _ => rfl⟩ ?_
  rotate_left
  ·(intro w9; go_simp; all_goals with_reducible rfl)
  try simp only [Act.put, List.setIfInBounds_toArray, List.set_cons_zero, List.set_cons_succ]
  refine wpAnyIn_take (i := 8) (oi := { dst := some 27, op := Op.extract (Operand.tmp 19) 1, type := 4, pos := "mime.go:48", after := #[{ on := 6, ground := Ground.data }, { on := 9, ground := Ground.gcOnly Departure.lateStores }], guard := none }) (v := ?_) rfl rfl (by kernel_rfl) (by kernel_rfl) (by kernel_rfl) (fun _ _ _ h => nomatch h.1) ⟨Or.inl ⟨by rfl, ?_⟩, fun _ => rfl⟩ ?_
  rotate_left
  ·(intro w9; go_simp; all_goals with_reducible rfl)
  try simp only [Act.put, List.setIfInBounds_toArray, List.set_cons_zero, List.set_cons_succ]
  refine wpAnyIn_take (i := 9) (oi := { dst := some 11, op := Op.assign (Operand.tmp 26), type := 4, pos := "mime.go:48", after := #[{ on := 7, ground := Ground.data }, { on := 5, ground := Ground.chain }, { on := 0, ground := Ground.phase }, { on := 1, ground := Ground.phase }, { on := 2, ground := Ground.phase }, { on := 3, ground := Ground.phase }, { on := 4, ground := Ground.phase }, { on := 5, ground := Ground.phase }, { on := 6, ground := Ground.phase }, { on := 7, ground := Ground.phase }, { on := 8, ground := Ground.textOnly Departure.lateStores }], guard := none }) (v := ?_) rfl rfl (by kernel_rfl) (by kernel_rfl) (by kernel_rfl) (fun _ _ _ h => nomatch h.1) ⟨Or.inl ⟨by rfl, ?_⟩, fun _ => rfl⟩ ?_
  rotate_left
  ·(intro w9; go_simp; all_goals with_reducible rfl)
  try simp only [Act.put, List.setIfInBounds_toArray, List.set_cons_zero, List.set_cons_succ]
  refine wpAnyIn_take (i := 10) (oi := { dst := some 12, op := Op.assign (Operand.tmp 27), type := 4, pos := "mime.go:48", after := #[{ on := 8, ground := Ground.data }, { on := 9, ground := Ground.chain }, { on := 0, ground := Ground.phase }, { on := 1, ground := Ground.phase }, { on := 2, ground := Ground.phase }, { on := 3, ground := Ground.phase }, { on := 4, ground := Ground.phase }, { on := 5, ground := Ground.phase }, { on := 6, ground := Ground.phase }, { on := 7, ground := Ground.phase }, { on := 8, ground := Ground.phase }, { on := 9, ground := Ground.phase }], guard := none }) (v := ?_) rfl rfl (by kernel_rfl) (by kernel_rfl) (by kernel_rfl) (fun _ _ _ h => nomatch h.1) ⟨Or.inl ⟨by rfl, ?_⟩, fun _ => rfl⟩ ?_
  rotate_left
  ·(intro w9; go_simp; all_goals with_reducible rfl)
  try simp only [Act.put, List.setIfInBounds_toArray, List.set_cons_zero, List.set_cons_succ]
  refine wpAnyIn_done (by kernel_rfl) ?_ _
  exact ⟨rfl, rfl, HV.out.trans (hb.mono HV.out.size)⟩
end Go.Proofs.YthidbmeaccpjdaaGreatDoor
end
