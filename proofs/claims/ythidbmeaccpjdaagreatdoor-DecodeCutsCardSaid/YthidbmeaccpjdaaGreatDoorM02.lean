/- Rows of pouch/api.Param in memory: read, owned, grown by one or by a row (printed by gen_row.py). A block of bytes that the call has laid ([]byte(s), make([]byte, n)): read, stored into, made a string again. The contract of small (ctype): lower case of ASCII letters. Layer 14: a part in memory; the contracts of fits, Body and Head. Layer 1, plain: a decimal number in canonical form, as strconv reads it. Layer 10: the contracts of blank, atom and row (printed by gen_toka.py). Layer 10, plain: the byte that closes, found step by step. Layer 10: the contracts of atom, row and closed (printed by gen_tokb.py). Layer 10: the contract of closed. -/
import Derived.Laws.IdiomStrings
import Derived.Laws.Rows
import Derived.ShutString
import Derived.Lib.AtoiAll
import Derived.Test.YthidbmeaccpjdaaGreatDoorShelfP
import Derived.Lib.IndexLaws
import Derived.Test.YthidbmeaccpjdaaGreatDoorM01
section
namespace Go.Proofs.YthidbmeaccpjdaaGreatDoor
open Go.RowKit
set_option linter.unusedVariables false
theorem par_info : (Tryz.prog.info? 30).map (fun i => (i.zero, i.size, i.bytes)) = some (some (.agg #[.string ByteArray.empty, .string ByteArray.empty]), 2, 32) := by kernel_rfl
def parCells (t : List UInt8 × List UInt8) : List Value := [.string (ba (t.1)), .string (ba (t.2))]
def ParOk (t : List UInt8 × List UInt8) : Prop := True
def Pars (w : World) (B : Nat) (A : Option Addr) (n : Nat) (ts : List (List UInt8 × List UInt8)) : Prop :=
 n = ts.length ∧ ∀ k (hk : k < ts.length), ∃ ad, A = some ad ∧ (ad.add (k * 2)).block < B ∧ w.cell? (ad.add (k * 2)) = some (.string (ba (ts[k].1))) ∧ w.cell? ⟨(ad.add (k * 2)).block, (ad.add (k * 2)).off + 1, none⟩ = some (.string (ba (ts[k].2))) ∧ ParOk ts[k]
section
variable {w w' : World} {B B' n : Nat} {A : Option Addr} {ts : List (List UInt8 × List UInt8)}
theorem Pars.below (h : Pars w B A n ts) (hb : Below B w w') : Pars w' B A n ts := by
 refine ⟨h.1, fun k hk => ?_⟩
 obtain ⟨ad, e, h1, c0, c1, h5⟩ := h.2 k hk
 exact ⟨ad, e, h1, (hb.cell h1).trans c0, (hb.cell (p := ⟨(ad.add (k * 2)).block, _, none⟩) h1).trans c1, h5⟩
theorem Pars.more (h : Pars w B A n ts) (hB : B ≤ B') : Pars w B' A n ts := by
 refine ⟨h.1, fun k hk => ?_⟩
 obtain ⟨ad, e, h1, h2⟩ := h.2 k hk
 exact ⟨ad, e, Nat.lt_of_lt_of_le h1 hB, h2⟩
theorem Pars.nil_ : Pars w B A 0 [] := ⟨rfl, fun k hk => by simp at hk⟩
theorem Pars.len (h : Pars w B A n ts) : ts.length = n := h.1.symm
theorem Pars.cutA (h : Pars w B A n ts) (k : Nat) (hk : k ≤ n) : Pars w B A k (ts.take k) := by
 refine ⟨by rw [List.length_take, h.len]; omega, fun j hj => ?_⟩
 rw [List.length_take] at hj
 have := h.2 j (by omega)
 rw [List.getElem_take]
 exact this
theorem Pars.cutB {ad : Addr} (h : Pars w B (some ad) n ts) (k : Nat) (hk : k ≤ n) : Pars w B (some (ad.add (k * 2))) (n - k) (ts.drop k) := by
 refine ⟨by rw [List.length_drop, h.len], fun j hj => ?_⟩
 rw [List.length_drop] at hj
 obtain ⟨ad', e, r⟩ := h.2 (k + j) (by omega)
 injection e with e
 subst e
 refine ⟨_, rfl, ?_⟩
 rw [add_add', show k * 2 + j * 2 = (k + j) * 2 by omega, List.getElem_drop]
 exact r
end
structure OwnPars (w : World) (B : Nat) (v : Value) (ts : List (List UInt8 × List UInt8)) : Prop where
 row : w.ownsRow B 30 2 v ts.length (ts.flatMap parCells)
 each : ∀ t, t ∈ ts → ParOk t
theorem OwnPars.nil_ (w : World) (B : Nat) : OwnPars w B (.slice none 0 0) [] := ⟨World.ownsRow_nil _ _ _ _, fun t h => by cases h⟩
theorem OwnPars.below {w w' : World} {B : Nat} {v : Value} {ts : List (List UInt8 × List UInt8)} (h : OwnPars w B v ts) (hb : Below w.heap.size w w') : OwnPars w' B v ts :=
 ⟨ownsRow_block h.row fun b e => hb.block b (h.row.lt b e).2, h.each⟩
theorem OwnPars.block {w w' : World} {B : Nat} {v : Value} {ts : List (List UInt8 × List UInt8)} (h : OwnPars w B v ts) (hb : ∀ b, v.ownBlock = some b → w'.heap[b]? = w.heap[b]?) : OwnPars w' B v ts := ⟨ownsRow_block h.row hb, h.each⟩
theorem OwnPars.more {w : World} {B B' : Nat} {v : Value} {ts : List (List UInt8 × List UInt8)} (h : OwnPars w B v ts) (hB : B' ≤ B) : OwnPars w B' v ts := by
 obtain ⟨⟨h0, h1⟩, h2⟩ := h
 refine ⟨⟨h0, ?_⟩, h2⟩
 rcases h1 with h1 | ⟨g, cap, cur, e, hb, r⟩
 ·exact .inl h1
 ·exact .inr ⟨g, cap, cur, e, by omega, r⟩
theorem par_len (ts : List (List UInt8 × List UInt8)) : (ts.flatMap parCells).length = ts.length * 2 := by induction ts with | nil => rfl | cons a r ih => simp [parCells] at ih ⊢; omega
theorem par_get : ∀ (ts : List (List UInt8 × List UInt8)) j (hj : j < ts.length) i (hi : i < 2), (ts.flatMap parCells)[j * 2 + i]? = (parCells ts[j])[i]? := fun ts => by
 induction ts with
 | nil => intro j hj; simp at hj
 | cons a r ih =>
  intro j hj i hi
  cases j with
  | zero =>
   simp only [List.flatMap_cons, List.getElem_cons_zero, Nat.zero_mul, Nat.zero_add]
   rw [List.getElem?_append_left (by simp [parCells]; omega)]
  | succ j =>
   have := ih j (by simpa using hj) i hi
   simp only [List.flatMap_cons, List.getElem_cons_succ]
   rw [List.getElem?_append_right (by simp [parCells]; omega), show (j + 1) * 2 + i - (parCells a).length = j * 2 + i by simp [parCells]; omega]
   exact this
theorem par_addS (a : Addr) {i : Nat} (hi : i ≠ 0) : a.add i = ⟨a.block, a.off + i, none⟩ := by unfold Addr.add; rw [if_neg hi]
theorem OwnPars.reads {w : World} {B : Nat} {v : Value} {ts : List (List UInt8 × List UInt8)} (h : OwnPars w B v ts) : ∃ A c, v = .slice A ts.length c ∧ ts.length ≤ c ∧ c ≤ maxLen ∧ Pars w w.heap.size A ts.length ts := by
 have h0 := h.row
 rcases h0.2 with ⟨rfl, hn⟩ | ⟨g, cap, cur, rfl, hb, hg, q1, q2, q3⟩
 ·have : ts = [] := List.eq_nil_of_length_eq_zero hn
  subst this
  exact ⟨none, 0, rfl, Nat.le_refl _, by simp, Pars.nil_⟩
 ·refine ⟨_, cap, rfl, q1, q2, rfl, fun k hk => ?_⟩
  have hc : ∀ i u, i < 2 → (parCells ts[k])[i]? = some u → w.cell? ⟨g, k * 2 + i, none⟩ = some u := fun i u hi hu => by
   have := h0.cells (g := g) rfl (k * 2 + i) u (by rw [par_get ts k hk i hi]; exact hu)
   unfold Addr.add at this
   by_cases e0 : k * 2 + i = 0
   ·rw [if_pos e0] at this; rw [e0]; exact this
   ·rw [if_neg e0] at this; rw [Nat.zero_add] at this; exact this
  have e1 : (Addr.add ⟨g, 0, none⟩ (k * 2)) = ⟨g, k * 2, none⟩ := by
   unfold Addr.add
   split
   ·rename_i e0; rw [e0]
   ·rw [Nat.zero_add]
  refine ⟨⟨g, 0, none⟩, rfl, by rw [add_block]; exact heap_lt hg, ?_, ?_, h.each _ (List.getElem_mem hk)⟩
  ·rw [e1]; exact hc 0 _ (by omega) rfl
  ·rw [e1]; exact hc 1 _ (by omega) rfl
theorem OwnPars.unfrozen {w : World} {B n c : Nat} {ad : Addr} {ts : List (List UInt8 × List UInt8)} (h : OwnPars w B (.slice (some ad) n c) ts) (i : Nat) : w.frozen? ⟨ad.block, i, none⟩ = false ∧ ad.block < w.heap.size := by
 rcases h.row.2 with ⟨e, _⟩ | ⟨g', cap, cur, e, _, hg, _⟩
 ·cases e
 ·injection e with e
  injection e with e
  subst e
  exact ⟨by simp [World.frozen?, hg], heap_lt hg⟩
theorem par_one (l : List (List UInt8 × List UInt8)) : ∀ u ∈ l.flatMap parCells, u.oneCell' = true := by
 intro u hu
 obtain ⟨t, _, ht⟩ := List.mem_flatMap.1 hu
 simp only [parCells, List.mem_cons, List.not_mem_nil, or_false] at ht
 rcases ht with rfl | rfl <;> rfl
set_option maxRecDepth 100000 in
theorem run_pushPar {W : World} {B : Nat} {v : Value} {ts : List (List UInt8 × List UInt8)} {x0 : List UInt8} {x1 : List UInt8} (hT : OwnPars W B v ts) (hB : B ≤ W.heap.size) (hf : ParOk (⟨x0, x1⟩ : List UInt8 × List UInt8)) (hlen : ts.length ≤ 1000000000) (c : Nat) (ty : TypeId) :
  ∃ v' w', (Builtin.append_ #[22, 22] ty #[v, .slice (some ⟨W.heap.size, 0, none⟩) 1 c]).run Tryz.prog (W.alloc (.cells #[.string (ba x0), .string (ba x1)] 30)) = .ok v' w' ∧ OwnPars w' B v' (ts ++ [(⟨x0, x1⟩ : List UInt8 × List UInt8)]) ∧ W.grownBy w' v.ownBlock := by
 obtain ⟨i0, hi, hz0, hz1, hz2⟩ := info_parts par_info
 obtain ⟨v', w', hrun, h1, h2, _, h4⟩ := run_append_own_at (P := Tryz.prog) (W.alloc (.cells #[.string (ba x0), .string (ba x1)] 30)) B 22 ty 30 i0 _ 2 32 Tryz.underlying22 hi hz0 hz1 hz2 rfl (by omega) v ts.length (ts.flatMap parCells) (World.ownsRow.alloc hT.row _) ⟨W.heap.size, 0, none⟩ 1 c (parCells (⟨x0, x1⟩ : List UInt8 × List UInt8)) rfl (World.news_of_block (MapKept.heap_alloc W _).1) (fun u hu => par_one [(⟨x0, x1⟩ : List UInt8 × List UInt8)] u (by simpa using hu)) (by simp only [maxLen]; omega) (by omega) (by simp; omega)
 have h5 := World.grownBy_alloc W (.cells #[.string (ba x0), .string (ba x1)] 30) v.ownBlock
 refine ⟨v', w', hrun, ⟨by simpa using h1, fun t ht => ?_⟩, ⟨h2.os.trans h5.os, h2.tape.trans h5.tape, h2.output.trans h5.output, Nat.le_trans h5.size h2.size, fun k hk hne => (h2.block k (by simp; omega) hne).trans (h5.block k hk hne)⟩⟩
 rcases List.mem_append.1 ht with ht | ht
 ·exact hT.each t ht
 ·rw [List.mem_singleton] at ht; subst ht; exact hf
theorem wp_pushPar {o : Oper} {a : Act} {K : Act → World → Prop} {W : World} {Q : Exit → Act → World → Prop} {B : Nat} {v : Value} {ts : List (List UInt8 × List UInt8)} {x0 : List UInt8} {x1 : List UInt8} (hT : OwnPars W B v ts) (hB : B ≤ W.heap.size) (hf : ParOk (⟨x0, x1⟩ : List UInt8 × List UInt8))
  (hlen : ts.length ≤ 1000000000) (s y : Operand) (c : Nat)
  (ho : o.op = .call { callee := .builtin .append, args := #[s, y], argTypes := #[22, 22] }) (hs : a.eval s = v) (hx : a.eval y = .slice (some ⟨W.heap.size, 0, none⟩) 1 c)
  (h : ∀ v' w', OwnPars w' B v' (ts ++ [(⟨x0, x1⟩ : List UInt8 × List UInt8)]) → W.grownBy w' v.ownBlock → K (a.put o.dst v') w') : o.wp Tryz.prog a (W.alloc (.cells #[.string (ba x0), .string (ba x1)] 30)) K Q := by
 obtain ⟨v', w', hrun, h1, h2⟩ := run_pushPar hT hB hf hlen c o.type
 unfold Oper.wp execOp
 simp only [ho, resolve, invoke, builtin, Sem.run_bind, Sem.run_pure, Result.andThen_ok, List.map_toArray, List.map_cons, List.map_nil, hs, hx, hrun]
 exact h v' w' h1 h2
theorem step_pushPar {ops : Array Oper} {o : Oper} {a : Act} {W : World} {K : Act → World → Prop} {Q : Exit → Act → World → Prop} {E : Prop} {B : Nat} {v : Value} {ts : List (List UInt8 × List UInt8)} {x0 : List UInt8} {x1 : List UInt8} (hT : OwnPars W B v ts) (hB : B ≤ W.heap.size) (hf : ParOk (⟨x0, x1⟩ : List UInt8 × List UInt8))
  (hlen : ts.length ≤ 1000000000) (hgd : o.guard = none) (s y : Operand) (c : Nat)
  (ho : o.op = .call { callee := .builtin .append, args := #[s, y], argTypes := #[22, 22] }) (hs : a.eval s = v) (hx : a.eval y = .slice (some ⟨W.heap.size, 0, none⟩) 1 c)
  (h : ∀ v' w', OwnPars w' B v' (ts ++ [(⟨x0, x1⟩ : List UInt8 × List UInt8)]) → W.grownBy w' v.ownBlock → K (a.put o.dst v') w') :
  if Region.wanted o (yielded ops a.tmps) = true then Oper.wp Tryz.prog o a (W.alloc (.cells #[.string (ba x0), .string (ba x1)] 30)) K Q else E := by
 have hw : Region.wanted o (yielded ops a.tmps) = true := by simp [Region.wanted, hgd]
 rw [if_pos hw]
 exact wp_pushPar hT hB hf hlen s y c ho hs hx h
theorem wpList_pushPar {ops : Array Oper} {rest : List Oper} {o : Oper} {a : Act} {W : World} {Q : Exit → Act → World → Prop} {B : Nat} {v : Value} {ts : List (List UInt8 × List UInt8)} {x0 : List UInt8} {x1 : List UInt8} (hT : OwnPars W B v ts) (hB : B ≤ W.heap.size) (hf : ParOk (⟨x0, x1⟩ : List UInt8 × List UInt8))
  (hlen : ts.length ≤ 1000000000) (hgd : o.guard = none) (s y : Operand) (c : Nat)
  (ho : o.op = .call { callee := .builtin .append, args := #[s, y], argTypes := #[22, 22] }) (hs : a.eval s = v) (hx : a.eval y = .slice (some ⟨W.heap.size, 0, none⟩) 1 c)
  (h : ∀ v' w', OwnPars w' B v' (ts ++ [(⟨x0, x1⟩ : List UInt8 × List UInt8)]) → W.grownBy w' v.ownBlock → wpList Tryz.prog ops Q rest (a.put o.dst v') w') :
  wpList Tryz.prog ops Q (o :: rest) a (W.alloc (.cells #[.string (ba x0), .string (ba x1)] 30)) :=
 wpList_plain hgd fun _ hK => wp_pushPar hT hB hf hlen s y c ho hs hx fun v' w' h2 h3 => hK _ _ (h v' w' h2 h3)
theorem Pars.cells {w : World} {B m : Nat} {ad : Addr} {l : List (List UInt8 × List UInt8)} (h : Pars w B (some ad) m l) : ∀ j u, (l.flatMap parCells)[j]? = some u → w.cell? (ad.add j) = some u := by
 intro j u hu
 have hj : j < l.length * 2 := by have := (List.getElem?_eq_some_iff.1 hu).1; rw [par_len] at this; exact this
 obtain ⟨k, i, hi, rfl⟩ : ∃ k i, i < 2 ∧ j = k * 2 + i := ⟨j / 2, j % 2, by omega, by omega⟩
 have hk : k < l.length := by omega
 rw [par_get l k hk i hi] at hu
 obtain ⟨ad', e, _, c0, c1, _⟩ := h.2 k hk
 injection e with e
 subst e
 rw [← add_add']
 match i, hi with
 | 0, _ =>
  have hu' : Value.string (ba (l[k].1)) = u := Option.some.inj hu
  subst hu'
  have e0 : (ad.add (k * 2)).add 0 = ad.add (k * 2) := by unfold Addr.add; rfl
  rw [e0]; exact c0
 | 1, _ =>
  have hu' : Value.string (ba (l[k].2)) = u := Option.some.inj hu
  subst hu'
  rw [par_addS _ (by decide)]; exact c1
set_option maxRecDepth 100000 in
theorem run_nonePar (w : World) (B : Nat) (t ty : TypeId) (ht : Tryz.prog.underlying t = some (.slice 30)) (v : Value) (acc : List (List UInt8 × List UInt8)) (hown : OwnPars w B v acc) (c : Nat) : (Builtin.append_ #[t, t] ty #[v, .slice none 0 c]).run Tryz.prog w = .ok v w := by
 obtain ⟨i0, hi, hz0, hz1, hz2⟩ := info_parts par_info
 rcases hown.row.2 with ⟨rfl, _⟩ | ⟨g, cap, cur, rfl, _, _, hnc, _⟩
 ·simp [Builtin.append_, run_underlying ht, sizeOf, typeInfo, hi, Builtin.lenOf, Builtin.firstCells]
 ·simp [Builtin.append_, run_underlying ht, sizeOf, typeInfo, hi, Builtin.lenOf, Builtin.firstCells, hnc, storeCells]
set_option maxRecDepth 100000 in
theorem run_joinPar (w : World) (B : Nat) (t ty : TypeId) (ht : Tryz.prog.underlying t = some (.slice 30)) (v : Value) (acc : List (List UInt8 × List UInt8)) (hown : OwnPars w B v acc) (hB : B ≤ w.heap.size)
  (D : Nat) (A : Option Addr) (m c : Nat) (l : List (List UInt8 × List UInt8)) (hr : Pars w D A m l) (hlen : acc.length + m ≤ 1000000000) :
  ∃ v' w', (Builtin.append_ #[t, t] ty #[v, .slice A m c]).run Tryz.prog w = .ok v' w' ∧ OwnPars w' B v' (acc ++ l) ∧ w.grownBy w' v.ownBlock ∧ (v'.ownBlock = v.ownBlock ∨ ∃ k, v'.ownBlock = some k ∧ w.heap.size ≤ k) := by
 obtain ⟨i0, hi, hz0, hz1, hz2⟩ := info_parts par_info
 have hml := hr.len
 rcases A with _ | ad
 ·have hl : l = [] := by
   cases l with
   | nil => rfl
   | cons a r => obtain ⟨ad, e, _⟩ := hr.2 0 (by simp); cases e
  subst hl
  obtain rfl : m = 0 := hml.symm
  exact ⟨v, w, run_nonePar w B t ty ht v acc hown c, by simpa using hown, World.grownBy.refl w _, .inl rfl⟩
 ·obtain ⟨v', w', hrun, h2, h3, _, h5⟩ := run_append_own_at (P := Tryz.prog) w B t ty 30 i0 _ 2 32 ht hi hz0 hz1 hz2 rfl (by omega) v acc.length (acc.flatMap parCells) hown.row ad m c (l.flatMap parCells) (by rw [par_len, hml]) hr.cells (par_one l) (by simp only [maxLen]; omega) (by omega) hB
  refine ⟨v', w', hrun, ⟨?_, fun t ht => ?_⟩, h3, ?_⟩
  ·rw [List.flatMap_append, List.length_append, hml]; exact h2
  ·rcases List.mem_append.1 ht with ht | ht
   ·exact hown.each t ht
   ·obtain ⟨k, hk, rfl⟩ := List.getElem_of_mem ht
    obtain ⟨_, _, _, _, _, hb⟩ := hr.2 k hk
    exact hb
  ·rcases h5 with h | h
   ·exact .inl h
   ·exact .inr ⟨_, h, Nat.le_refl _⟩
theorem wpList_joinPar {ops : Array Oper} {rest : List Oper} {o : Oper} {a : Act} {w : World} {Q : Exit → Act → World → Prop} {B : Nat} {v : Value} {acc : List (List UInt8 × List UInt8)} (hown : OwnPars w B v acc) (hB : B ≤ w.heap.size)
  {D : Nat} {A : Option Addr} {m : Nat} {l : List (List UInt8 × List UInt8)} (hr : Pars w D A m l) (hlen : acc.length + m ≤ 1000000000) (hgd : o.guard = none) (s x : Operand) (t : TypeId) (c : Nat)
  (ho : o.op = .call { callee := .builtin .append, args := #[s, x], argTypes := #[t, t] }) (ht : Tryz.prog.underlying t = some (.slice 30)) (hs : a.eval s = v) (hx : a.eval x = .slice A m c)
  (h : ∀ v' w', OwnPars w' B v' (acc ++ l) → w.grownBy w' v.ownBlock → (v'.ownBlock = v.ownBlock ∨ ∃ k, v'.ownBlock = some k ∧ w.heap.size ≤ k) → wpList Tryz.prog ops Q rest (a.put o.dst v') w') : wpList Tryz.prog ops Q (o :: rest) a w := by
 refine wpList_plain hgd fun K hK => ?_
 obtain ⟨v', w', hrun, h2, h3, h4⟩ := run_joinPar w B t o.type ht v acc hown hB D A m c l hr hlen
 unfold Oper.wp execOp
 simp only [ho, resolve, invoke, builtin, Sem.run_bind, Sem.run_pure, Result.andThen_ok, List.map_toArray, List.map_cons, List.map_nil, hs, hx, hrun]
 exact hK _ _ (h v' w' h2 h3 h4)
end Go.Proofs.YthidbmeaccpjdaaGreatDoor
end
section
namespace Go.Proofs.YthidbmeaccpjdaaGreatDoor
open Go.RowKit
set_option linter.unusedVariables false
def ByteRow (w : World) (b : Nat) (l : List UInt8) : Prop :=
 ∃ C T fr, w.heap[b]? = some (.cells C T fr) ∧ (∀ j (hj : j < l.length), C[j]? = some (.int .u8 (l[j].toNat : Int))) ∧ (l.length ≤ fr.1 ∨ fr = (0, 0))
section
variable {w w' : World} {b : Nat} {l : List UInt8}
theorem ByteRow.lt (h : ByteRow w b l) : b < w.heap.size := by
 obtain ⟨C, T, fr, h1, _⟩ := h
 exact heap_lt h1
theorem ByteRow.kept (h : ByteRow w b l) (hb : w'.heap[b]? = w.heap[b]?) : ByteRow w' b l := by
 obtain ⟨C, T, fr, h1, h2⟩ := h
 exact ⟨C, T, fr, hb.trans h1, h2⟩
theorem ByteRow.drew (h : ByteRow w b l) : ByteRow w.drew b l := h
theorem ByteRow.cell (h : ByteRow w b l) {j : Nat} (hj : j < l.length) : w.cell? ⟨b, j, none⟩ = some (.int .u8 (l[j].toNat : Int)) := by
 obtain ⟨C, T, fr, h1, h2, _⟩ := h
 rw [← h2 j hj]
 unfold World.cell?
 rw [h1]
 simp
theorem ByteRow.free (h : ByteRow w b l) {j : Nat} (hj : j < l.length) : w.frozen? ⟨b, j, none⟩ = false := by
 obtain ⟨C, T, fr, h1, h2, h3⟩ := h
 unfold World.frozen?
 rw [h1]
 rcases h3 with h3 | rfl
 ·simp; omega
 ·simp
theorem ByteRow.set (h : ByteRow w b l) {k : Nat} (hk : k < l.length) (c : UInt8) : ByteRow (w.setCell ⟨b, k, none⟩ (.int .u8 (c.toNat : Int))) b (l.set k c) := by
 obtain ⟨C, T, fr, h1, h2, h3⟩ := h
 refine ⟨C.setIfInBounds k (.int .u8 (c.toNat : Int)), T, fr, ?_, fun j hj => ?_, by simpa using h3⟩
 ·rw [setCell_eq_setRow w b k C T fr _ h1]
  exact setRow_heap w b C _ T _ h1
 ·rw [List.length_set] at hj
  rw [Array.getElem?_setIfInBounds, List.getElem_set]
  by_cases e : k = j
  ·subst e
   have := h2 k hk
   have hlt : k < C.size := (Array.getElem?_eq_some_iff.1 this).1
   simp [hlt]
  ·rw [if_neg e, if_neg e]
   exact h2 j hj
theorem ByteRow.of_string (w : World) (l : List UInt8) (cap : Nat) (T : TypeId) (m : Nat) (hm : l.length ≤ m) : ByteRow (w.alloc (.cells (bytesRow (ba l) cap) T (m, m + 1))) w.heap.size l := by
 refine ⟨bytesRow (ba l) cap, T, (m, m + 1), ?_, fun j hj => ?_, .inl hm⟩
 ·show (w.heap.push _)[w.heap.size]? = _
  simp
 ·exact bytesRow_at (ba l) cap j (by simpa [ba] using hj)
theorem ByteRow.zeros (w : World) (n m : Nat) (T : TypeId) (hm : n ≤ m) : ByteRow (w.alloc (.cells (Array.replicate m (.int .u8 0)) T)) w.heap.size (List.replicate n 0) := by
 refine ⟨Array.replicate m (.int .u8 0), T, (0, 0), ?_, fun j hj => ?_, .inr rfl⟩
 ·show (w.heap.push _)[w.heap.size]? = _
  simp
 ·rw [List.length_replicate] at hj
  rw [List.getElem_replicate, Array.getElem?_replicate, if_pos (by omega)]
  rfl
theorem ByteRow.cells (h : ByteRow w b l) : ∀ j (hj : j < l.length), w.cell? (Addr.add ⟨b, 0, none⟩ j) = some (.int .u8 (l[j].toNat : Int)) := fun j hj => by
 have e : Addr.add ⟨b, 0, none⟩ j = ⟨b, j, none⟩ := by
  unfold Addr.add
  split
  ·rename_i h0; rw [h0]
  ·rw [Nat.zero_add]
 rw [e]
 exact h.cell hj
end
theorem bytesRow_size (s : ByteArray) (cap : Nat) (h : s.size ≤ cap) : (bytesRow s cap).size = cap := by
 unfold bytesRow
 rw [Array.size_append, Array.size_map, Array.size_replicate]
 have : s.data.size = s.size := rfl
 omega
end Go.Proofs.YthidbmeaccpjdaaGreatDoor
end
section
namespace Go.Proofs.YthidbmeaccpjdaaGreatDoor
open Go.RowKit
set_option linter.unusedVariables false
def StrB (w : World) (l : List UInt8) (e : Ending) (w' : World) : Prop := e = .returned (.string (ba l)) ∧ Below w.heap.size w w'
theorem smallB_yes {c : UInt8} (h : 65 ≤ (c.toNat : Int) ∧ (c.toNat : Int) ≤ 90) : smallB c = UInt8.ofNat (c.toNat + 32) := by
 unfold smallB
 have h1 : 65 ≤ c ∧ c ≤ 90 := by
  rw [UInt8.le_iff_toNat_le, UInt8.le_iff_toNat_le]
  show (65 : Nat) ≤ _ ∧ _ ≤ (90 : Nat)
  omega
 rw [if_pos h1]
 apply UInt8.toNat_inj.1
 rw [UInt8.toNat_add]
 simp
theorem smallB_no {c : UInt8} (h : ¬ (65 ≤ (c.toNat : Int) ∧ (c.toNat : Int) ≤ 90)) : smallB c = c := by
 unfold smallB
 have h1 : ¬ (65 ≤ c ∧ c ≤ 90) := by
  rw [UInt8.le_iff_toNat_le, UInt8.le_iff_toNat_le]
  show ¬ ((65 : Nat) ≤ _ ∧ _ ≤ (90 : Nat))
  omega
 rw [if_neg h1]
structure SmRel (w : World) (l : List UInt8) (k : Nat) (wr : World) : Prop where
 row : ByteRow wr w.heap.size (smallP (l.take k) ++ l.drop k)
 bel : Below w.heap.size w wr
theorem sm_len (l : List UInt8) (k : Nat) : (smallP (l.take k) ++ l.drop k).length = l.length := by
 rw [List.length_append, smallP_len, List.length_take, List.length_drop]
 omega
theorem sm_get {l : List UInt8} {k : Nat} (hk : k < l.length) (h : k < (smallP (l.take k) ++ l.drop k).length) : (smallP (l.take k) ++ l.drop k)[k] = l[k] := by
 rw [List.getElem_append_right (by rw [smallP_len, List.length_take]; omega)]
 simp only [smallP_len, List.length_take, List.getElem_drop]
 congr 1
 omega
theorem sm_step {l : List UInt8} {k : Nat} (hk : k < l.length) : smallP (l.take (k + 1)) ++ l.drop (k + 1) = (smallP (l.take k) ++ l.drop k).set k (smallB l[k]) := by
 rw [List.take_succ_eq_append_getElem hk]
 have e1 : smallP (l.take k ++ [l[k]]) = smallP (l.take k) ++ [smallB l[k]] := by unfold smallP; rw [List.map_append]; rfl
 have e2 : l.drop k = l[k] :: l.drop (k + 1) := List.drop_eq_getElem_cons hk
 have e3 : k - (smallP (l.take k)).length = 0 := by rw [smallP_len, List.length_take]; omega
 rw [e1, List.set_append_right _ _ (by rw [smallP_len, List.length_take]; omega), e3]
 conv => rhs; rw [e2]
 rw [List.append_assoc]
 rfl
theorem sm_same {l : List UInt8} {k : Nat} (hk : k < l.length) (h : smallB l[k] = l[k]) : smallP (l.take (k + 1)) ++ l.drop (k + 1) = smallP (l.take k) ++ l.drop k := by
 rw [sm_step hk, h]
 have h1 : k < (smallP (l.take k) ++ l.drop k).length := by rw [sm_len]; exact hk
 have := sm_get hk h1
 rw [← this, List.set_getElem_self]
set_option maxRecDepth 100000 in
set_option maxHeartbeats 4000000 in
theorem csmall_any (l : List UInt8) (w : World) (hl : l.length ≤ 1000000000) :
  Calls Tryz.prog 90 #[.string (ba l)] w (StrB w (smallP l)) := by
 have hcv := fun (W : World) (S : ByteArray) => run_bytes_of_string (P := Tryz.prog) W 9 62 5 S Tryz.underlying9 Tryz.underlying62 Tryz.underlying5
 have HR0 := Lib.hid (fun (cap m : Nat) (hm : l.length ≤ m) => ByteRow.of_string w l cap 5 m hm)
 obtain ⟨n, hn⟩ : ∃ n, l.length = n := ⟨_, rfl⟩
 have HL := Lib.hid hn
 obtain ⟨s, hs⟩ : ∃ s, ba l = s := ⟨_, rfl⟩
 have HS := Lib.hid hs
 have HZ := Lib.hid (show s.size = n by rw [← hs, ba_size, hn])
 have hsz : (s.size : Int) = n := by rw [HZ.out]
 rw [hs]
 rw [hn] at hl
 clear hs hn
 rw [HS.out] at HR0
 go_enter Tryz.func90, Tryz.ntmps90
 go_wp2
 obtain ⟨C, hC⟩ : ∃ C, grownCap w s.size 0 5 = C := ⟨_, rfl⟩
 have HCN := Lib.hid (show l.length ≤ (bytesRow s C).size by rw [bytesRow_size s C (by rw [← hC]; have := grownCap_ge w s.size 0 5; omega), ← hC, HL.out]; have := grownCap_ge w s.size 0 5; omega)
 rw [hC]
 clear hC hcv
 go_loopw [10] (fun i wr => ∃ k : Nat, k ≤ n ∧ i = .int .i64 (k : Int) ∧ Hid (SmRel w l k wr)) (fun i _ => n - (intOf i).toNat)
 case atStart =>
  refine ⟨0, Nat.zero_le _, rfl, Lib.hid ⟨?_, (Below.refl _ _).drew.alloc (Nat.le_refl _) _⟩⟩
  rw [show smallP (l.take 0) ++ l.drop 0 = l from rfl]
  exact (HR0.out C _ HCN.out).drew
 case round =>
  obtain ⟨k, hk, rfl, HR⟩ := hrel
  have hsz2 := HR.out.bel.size
  by_cases hlt : k < n
  ·have hk2 : (k : Int) < (n : Int) := by omega
   have hk3 : (k : Int) < (s.size : Int) := by omega
   have hk0 : (0 : Int) ≤ (k : Int) := by omega
   have hkl : k < l.length := by rw [HL.out]; exact hlt
   have hks : k < (smallP (l.take k) ++ l.drop k).length := by rw [sm_len]; exact hkl
   have hcell := HR.out.row.cell hks
   have hfree := HR.out.row.free hks
   rw [sm_get hkl hks] at hcell
   have HST := Lib.hid (sm_step hkl)
   have HSA := Lib.hid (sm_same hkl)
   have HSET := Lib.hid (HR.out.row.set hks (smallB l[k]))
   obtain ⟨c, hc⟩ : ∃ c, l[k] = c := ⟨_, rfl⟩
   rw [hc] at hcell HST HSA HSET
   have HY := Lib.hid (smallB_yes (c := c))
   have HNO := Lib.hid (smallB_no (c := c))
   obtain ⟨x, hx⟩ : ∃ x : Int, (c.toNat : Int) = x := ⟨_, rfl⟩
   rw [hx] at hcell HY HNO
   have hx0 : 0 ≤ x := by omega
   have hx1 : x ≤ 255 := by have := c.toNat_lt; omega
   have HX := Lib.hid hx
   clear hc hkl hks hx
   by_cases e1 : 65 ≤ x
   ·by_cases e2 : x ≤ 90
    ·have g1 : decide (65 ≤ x) = true := decide_eq_true e1
     have g2 : decide (x ≤ 90) = true := decide_eq_true e2
     have HV := Lib.hid (show (smallB c).toNat = x + 32 by rw [HY.out ⟨e1, e2⟩]; have := HX.out; have := c.toNat_lt; simp; omega)
     go_wp2
     go_roundw
     case rel =>
      refine ⟨k + 1, by omega, by go_num, Lib.hid ⟨?_, HR.out.bel.setCell (Nat.le_refl _) _⟩⟩
      rw [HST.out]
      have := HSET.out
      rw [HV.out] at this
      exact this
     case measure => simp [intOf] <;> omega
    ·have g1 : decide (65 ≤ x) = true := decide_eq_true e1
     have g2 : decide (x ≤ 90) = false := decide_eq_false e2
     have HV := Lib.hid (HSA.out (HNO.out fun h => e2 h.2))
     clear hfree
     go_wp2
     go_roundw
     case rel =>
      refine ⟨k + 1, by omega, by go_num, Lib.hid ⟨?_, HR.out.bel⟩⟩
      rw [HV.out]
      exact HR.out.row
     case measure => simp [intOf] <;> omega
   ·have g1 : decide (65 ≤ x) = false := decide_eq_false e1
    have HV := Lib.hid (HSA.out (HNO.out fun h => e1 h.1))
    clear hfree
    go_wp2
    go_roundw
    case rel =>
     refine ⟨k + 1, by omega, by go_num, Lib.hid ⟨?_, HR.out.bel⟩⟩
     rw [HV.out]
     exact HR.out.row
    case measure => simp [intOf] <;> omega
  ·obtain rfl : k = n := by omega
   have hrow : ByteRow wr w.heap.size (smallP l) := by
    have := HR.out.row
    rw [List.take_of_length_le (by rw [HL.out]; exact Nat.le_refl _), List.drop_of_length_le (by rw [HL.out]; exact Nat.le_refl _), List.append_nil] at this
    exact this
   have hback := run_convert_bytes_back (P := Tryz.prog) wr 62 9 5 ⟨w.heap.size, 0, none⟩ C (smallP l) Tryz.underlying62 Tryz.underlying5 Tryz.underlying9 hrow.cells
   rw [smallP_len, HL.out, ← HZ.out] at hback
   clear hrow hsz
   go_wp2
   go_ret
   exact ⟨rfl, HR.out.bel⟩
end Go.Proofs.YthidbmeaccpjdaaGreatDoor
end
section
namespace Go.Proofs.YthidbmeaccpjdaaGreatDoor
open Go.RowKit
set_option linter.unusedVariables false
def prtV (p : Prt) (A : Option Addr) (n c : Nat) : Value := .agg #[.int .i64 p.up, .int .i64 p.depth, .int .i64 p.start, .int .i64 p.body, .int .i64 p.stop, .string (ba p.typ.kind), .string (ba p.typ.sub), .slice A n c, .string (ba p.code)]
def prtC (p : Prt) (A : Option Addr) (n c : Nat) : Obj := .cells #[.int .i64 p.up, .int .i64 p.depth, .int .i64 p.start, .int .i64 p.body, .int .i64 p.stop, .string (ba p.typ.kind), .string (ba p.typ.sub), .slice A n c, .string (ba p.code)] 26
theorem fitsP_eq {n : Nat} {p : Prt} {f b t : Int} (hf : p.start = f) (hb : p.body = b) (ht : p.stop = t) {x : Bool} (h : x = (decide (0 ≤ f) && decide (f ≤ b) && decide (b ≤ t) && decide (t ≤ n))) : fitsP n p = x := by
 subst hf hb ht h
 unfold fitsP
 rw [Bool.eq_iff_iff]
 simp only [Bool.and_eq_true, decide_eq_true_iff]
 omega
set_option maxRecDepth 100000 in
set_option maxHeartbeats 4000000 in
theorem fits_any (l : List UInt8) (p : Prt) (A : Option Addr) (n c : Nat) (w : World) (hl : l.length ≤ 1000000000) :
  Calls Tryz.prog 80 #[.string (ba l), prtV p A n c] w fun e w' => e = .returned (.bool (fitsP l.length p)) ∧ w' = w.alloc (prtC p A n c) := by
 have HF := Lib.hid (fun x f b t h1 h2 h3 h => fitsP_eq (n := l.length) (p := p) (f := f) (b := b) (t := t) (x := x) h1 h2 h3 h)
 unfold prtV prtC
 obtain ⟨N, hn⟩ : ∃ n, l.length = n := ⟨_, rfl⟩
 have HL := Lib.hid hn
 obtain ⟨s, hs⟩ : ∃ s, ba l = s := ⟨_, rfl⟩
 have HS := Lib.hid hs
 have HZ := Lib.hid (show s.size = N by rw [← hs, ba_size, hn])
 have hsz : (s.size : Int) = N := by rw [HZ.out]
 rw [hs]
 rw [hn] at hl
 clear hs hn
 obtain ⟨f, hf⟩ : ∃ f, p.start = f := ⟨_, rfl⟩
 obtain ⟨b, hb⟩ : ∃ f, p.body = f := ⟨_, rfl⟩
 obtain ⟨t, ht⟩ : ∃ f, p.stop = f := ⟨_, rfl⟩
 have HFF := Lib.hid (fun x h => HF.out x f b t hf hb ht h)
 rw [hf, hb, ht, HL.out]
 rw [HL.out] at HFF
 clear HF hf hb ht
 go_enter Tryz.func80, Tryz.ntmps80
 go_wp2
 all_goals
  go_ret
  refine ⟨?_, rfl⟩
  rw [HFF.out _ rfl]
  show Ending.returned (Value.bool _) = Ending.returned (Value.bool _)
  congr 2
  rw [Bool.eq_iff_iff]
  simp only [Bool.and_eq_true, decide_eq_true_iff]
  first | omega | (simp; omega)
theorem fits_in {n : Nat} {p : Prt} (h : fitsP n p = true) : 0 ≤ p.start ∧ p.start ≤ p.body ∧ p.body ≤ p.stop ∧ p.stop ≤ n := by
 unfold fitsP at h
 exact of_decide_eq_true h
set_option maxRecDepth 100000 in
set_option maxHeartbeats 4000000 in
theorem body_any (l : List UInt8) (p : Prt) (A : Option Addr) (n c : Nat) (w : World) (hl : l.length ≤ 1000000000) :
  Calls Tryz.prog 36 #[.string (ba l), prtV p A n c] w (StrB w (bodyOf l p)) := by
 have HFI := Lib.hid (fun W => fits_any l p A n c W hl)
 have HEX := Lib.hid (fun i j => ba_cut l i j)
 have HFN := Lib.hid (fun (h : fitsP l.length p = true) => fits_in h)
 have HBO := Lib.hid (show bodyOf l p = if fitsP l.length p = true then (l.take p.stop.toNat).drop p.body.toNat else [] from rfl)
 have hlen : ((ba l).size : Int) = l.length := by rw [ba_size]
 unfold prtV prtC at HFI
 unfold prtV
 have HB := Lib.hid (show ∀ o o', Below w.heap.size w ((w.alloc o).alloc o') from fun o o' => ((Below.refl _ _).alloc (Nat.le_refl _) o).alloc (by simp) o')
 obtain ⟨f, hf⟩ : ∃ f, p.start = f := ⟨_, rfl⟩
 obtain ⟨b, hb⟩ : ∃ f, p.body = f := ⟨_, rfl⟩
 obtain ⟨t, ht⟩ : ∃ f, p.stop = f := ⟨_, rfl⟩
 simp only [hf, hb, ht] at HFI HFN
 rw [hb, ht] at HBO
 rw [hf, hb, ht]
 clear hf hb ht
 cases hx : fitsP l.length p with
 | false =>
  rw [hx] at HBO
  simp only [hx] at HFI
  have HV := Lib.hid (show bodyOf l p = [] by rw [HBO.out]; rfl)
  clear hx HBO HFN HEX
  go_enter Tryz.func36, Tryz.ntmps36
  go_wp2_with fail
  refine (HFI.out _).mono ?_
  rintro e w2 ⟨rfl, rfl⟩
  go_wp2
  go_ret
  refine ⟨by rw [HV.out]; rfl, HB.out _ _⟩
 | true =>
  obtain ⟨h1, h2, h3, h4⟩ := HFN.out hx
  rw [hx] at HBO
  simp only [hx] at HFI
  have HV := Lib.hid (show bodyOf l p = (l.take t.toNat).drop b.toNat by rw [HBO.out]; rfl)
  have hex := HEX.out b.toNat t.toNat
  have HX := Lib.hid hex
  have hb0 : 0 ≤ b := by omega
  have ht0 : 0 ≤ t := by omega
  clear hx HBO HFN hex h1 h2
  go_enter Tryz.func36, Tryz.ntmps36
  go_wp2_with fail
  refine (HFI.out _).mono ?_
  rintro e w2 ⟨rfl, rfl⟩
  go_wp2
  go_ret
  refine ⟨by rw [HV.out, HX.out]; rfl, HB.out _ _⟩
end Go.Proofs.YthidbmeaccpjdaaGreatDoor
end
section
namespace Go.Proofs.YthidbmeaccpjdaaGreatDoor
open Go.RowKit
set_option linter.unusedVariables false
def decA (a : Nat) (l : List UInt8) : Nat := l.foldl (fun a c => a * 10 + (c.toNat - 48)) a
theorem decA_ge : ∀ (l : List UInt8) (a : Nat), a ≤ decA a l
 | [], a => Nat.le_refl _
 | c :: r, a => by
  have := decA_ge r (a * 10 + (c.toNat - 48))
  show a ≤ decA (a * 10 + (c.toNat - 48)) r
  omega
theorem digitB_nat {c : UInt8} : digitB c = true ↔ 48 ≤ c.toNat ∧ c.toNat ≤ 57 := by
 unfold digitB
 rw [decide_eq_true_iff, UInt8.le_iff_toNat_le, UInt8.le_iff_toNat_le]
 exact Iff.rfl
theorem parse_digits : ∀ (l : List UInt8) (a : Nat), a < 18446744073709551616 → l.all digitB = true →
  (Lib.parseUint10 a l = .ok (decA a l) ∧ decA a l < 18446744073709551616) ∨ (Lib.parseUint10 a l = .range ∧ 18446744073709551616 ≤ decA a l)
 | [], a, h, _ => .inl ⟨rfl, h⟩
 | c :: r, a, h, hd => by
  rw [List.all_cons, Bool.and_eq_true] at hd
  have hc := digitB_nat.1 hd.1
  have hge := decA_ge r (a * 10 + (c.toNat - 48))
  have e : decA a (c :: r) = decA (a * 10 + (c.toNat - 48)) r := rfl
  unfold Lib.parseUint10
  rw [if_pos hc, e]
  by_cases h1 : 1844674407370955162 ≤ a
  ·rw [if_pos h1]; exact .inr ⟨rfl, by omega⟩
  ·rw [if_neg h1]
   by_cases h2 : 18446744073709551616 ≤ a * 10 + (c.toNat - 48)
   ·rw [if_pos h2]; exact .inr ⟨rfl, by omega⟩
   ·rw [if_neg h2]; exact parse_digits r _ (by omega) hd.2
def decD (l : List UInt8) : List UInt8 := if l.head? = some 45 then l.drop 1 else l
def decN (l : List UInt8) : Int := if l.head? = some 45 then -(decV (decD l) : Int) else (decV (decD l) : Int)
def canonB (l : List UInt8) : Prop := (decD l).all digitB = true ∧ decD l ≠ [] ∧ ¬ ((decD l).head? = some 48 ∧ l ≠ [48])
instance (l : List UInt8) : Decidable (canonB l) := inferInstanceAs (Decidable (_ ∧ _))
theorem decP_eq (l : List UInt8) (lo hi : Int) : decP l lo hi = if canonB l ∧ lo ≤ decN l ∧ decN l ≤ hi then some (decN l) else none := by
 unfold decP canonB decN decD
 by_cases h : l.head? = some 45
 ·simp only [h, if_true]
  by_cases h2 : (l.drop 1).all digitB = true ∧ l.drop 1 ≠ [] ∧ ¬ ((l.drop 1).head? = some 48 ∧ l ≠ [48])
  ·simp only [h2, not_false_eq_true, and_self, if_true, true_and, ne_eq]
  ·simp only [ne_eq] at h2
   simp only [ne_eq, h2, if_false, false_and]
 ·simp only [h, if_false]
  by_cases h2 : l.all digitB = true ∧ l ≠ [] ∧ ¬ (l.head? = some 48 ∧ l ≠ [48])
  ·simp only [h2, not_false_eq_true, and_self, if_true, true_and, ne_eq]
  ·simp only [ne_eq] at h2
   simp only [ne_eq, h2, if_false, false_and]
theorem atoi_canon {l : List UInt8} (h : canonB l) : (Lib.atoiAll l = .ok (decN l) ∧ -9223372036854775808 ≤ decN l ∧ decN l ≤ 9223372036854775807) ∨ (Lib.atoiAll l = .range ∧ (decN l < -9223372036854775808 ∨ 9223372036854775807 < decN l)) := by
 obtain ⟨h1, h2, h3⟩ := h
 have hp := parse_digits (decD l) 0 (by omega) h1
 have hm : Lib.parseMag (decD l) = Lib.parseUint10 0 (decD l) := by unfold Lib.parseMag; rw [if_neg h2]
 have hv : decV (decD l) = decA 0 (decD l) := rfl
 rw [← hm, ← hv] at hp
 cases l with
 | nil => exact absurd rfl h2
 | cons c r =>
  by_cases hc : c = 45
  ·subst hc
   have e1 : decD (45 :: r) = r := rfl
   have e2 : decN (45 :: r) = -(decV r : Int) := rfl
   rw [e1] at hp
   rw [e2]
   unfold Lib.atoiAll
   have t2 : (45 : UInt8).toNat = 45 := rfl
   simp only [t2, or_true, if_true]
   rcases hp with ⟨hp, hq⟩ | ⟨hp, hq⟩
   ·rw [hp]
    by_cases hb : 9223372036854775808 < decV r
    ·refine .inr ⟨by simp [hb], by omega⟩
    ·refine .inl ⟨by simp [hb], by omega, by omega⟩
   ·rw [hp]
    exact .inr ⟨rfl, by omega⟩
  ·have hh : ¬ (c :: r).head? = some 45 := fun e => hc (Option.some.inj e)
   have e1 : decD (c :: r) = c :: r := by unfold decD; rw [if_neg hh]
   have e2 : decN (c :: r) = (decV (c :: r) : Int) := by unfold decN; rw [if_neg hh, e1]
   rw [e1] at hp h1
   rw [e2]
   have hcd := digitB_nat.1 (by rw [List.all_cons, Bool.and_eq_true] at h1; exact h1.1)
   have t1 : ¬ c.toNat = 43 := by omega
   have t2 : ¬ c.toNat = 45 := by omega
   unfold Lib.atoiAll
   simp only [t1, t2, or_self, if_false]
   rcases hp with ⟨hp, hq⟩ | ⟨hp, hq⟩
   ·rw [hp]
    by_cases hb : 9223372036854775808 ≤ decV (c :: r)
    ·refine .inr ⟨by simp [hb], by omega⟩
    ·refine .inl ⟨by simp [hb], by omega, by omega⟩
   ·rw [hp]
    exact .inr ⟨rfl, by omega⟩
end Go.Proofs.YthidbmeaccpjdaaGreatDoor
end
section
namespace Go.Proofs.YthidbmeaccpjdaaGreatDoor
open Go.RowKit
set_option linter.unusedVariables false
theorem u8_beq (c d : UInt8) : (c == d) = decide ((c.toNat : Int) = (d.toNat : Int)) := by
 rw [Bool.eq_iff_iff, beq_iff_eq, decide_eq_true_iff]
 exact ⟨fun h => by rw [h], fun h => UInt8.toNat_inj.1 (by omega)⟩
theorem blankB_int (c : UInt8) : blankB c = (decide ((c.toNat : Int) = 9) || decide ((c.toNat : Int) = 10) || decide ((c.toNat : Int) = 13) || decide ((c.toNat : Int) = 32)) := by
 unfold blankB
 rw [u8_beq, u8_beq, u8_beq, u8_beq]
 rfl
theorem tblank_any (c : UInt8) (w : World) : Calls Tryz.prog 202 #[.int .u8 (c.toNat : Int)] w fun e w' => e = .returned (.bool (blankB c)) ∧ w' = w := by
 have HF := Lib.hid (blankB_int c)
 obtain ⟨x, hx⟩ : ∃ x : Int, (c.toNat : Int) = x := ⟨_, rfl⟩
 rw [hx] at HF ⊢
 clear hx
 by_cases e9 : x = 9
 ·have g9 : (x == 9) = true := by simpa using e9
  have HG := Lib.hid (show blankB c = true by rw [HF.out]; simp [*])
  clear HF e9
  go_enter Tryz.func202, Tryz.ntmps202
  go_wp2
  go_ret
  exact ⟨by rw [HG.out]; rfl, rfl⟩
 have g9 : (x == 9) = false := by simpa using e9
 by_cases e10 : x = 10
 ·have g10 : (x == 10) = true := by simpa using e10
  have HG := Lib.hid (show blankB c = true by rw [HF.out]; simp [*])
  clear HF e9 e10
  go_enter Tryz.func202, Tryz.ntmps202
  go_wp2
  go_ret
  exact ⟨by rw [HG.out]; rfl, rfl⟩
 have g10 : (x == 10) = false := by simpa using e10
 by_cases e13 : x = 13
 ·have g13 : (x == 13) = true := by simpa using e13
  have HG := Lib.hid (show blankB c = true by rw [HF.out]; simp [*])
  clear HF e9 e10 e13
  go_enter Tryz.func202, Tryz.ntmps202
  go_wp2
  go_ret
  exact ⟨by rw [HG.out]; rfl, rfl⟩
 have g13 : (x == 13) = false := by simpa using e13
 by_cases e32 : x = 32
 ·have g32 : (x == 32) = true := by simpa using e32
  have HG := Lib.hid (show blankB c = true by rw [HF.out]; simp [*])
  clear HF e9 e10 e13 e32
  go_enter Tryz.func202, Tryz.ntmps202
  go_wp2
  go_ret
  exact ⟨by rw [HG.out]; rfl, rfl⟩
 have g32 : (x == 32) = false := by simpa using e32
 have HG := Lib.hid (show blankB c = false by rw [HF.out]; simp [*])
 clear HF
 clear e9 e10 e13 e32
 go_enter Tryz.func202, Tryz.ntmps202
 go_wp2
 go_ret
 exact ⟨by rw [HG.out]; rfl, rfl⟩
theorem specials_index (c : UInt8) : decide (Lib.indexByte specials c < 0) = !specials.contains c := by
 have h := Lib.indexByte_ge specials c
 by_cases e : Lib.indexByte specials c < 0
 ·have e1 : Lib.indexByte specials c = -1 := by omega
  have h2 := Lib.indexByte_none e1
  have : specials.contains c = false := by
   cases hc : specials.contains c with
   | false => rfl
   | true =>
    have hm : c ∈ specials := by simpa using hc
    obtain ⟨k, hk, rfl⟩ := List.getElem_of_mem hm
    exact absurd (List.getElem?_eq_getElem hk) (h2 k)
  rw [this, decide_eq_true e]; rfl
 ·obtain ⟨o, ho⟩ : ∃ o : Nat, Lib.indexByte specials c = o := ⟨(Lib.indexByte specials c).toNat, by omega⟩
  have h2 := (Lib.indexByte_some ho).1
  have : specials.contains c = true := by simpa using List.mem_of_getElem? h2
  rw [this, decide_eq_false e]; rfl
end Go.Proofs.YthidbmeaccpjdaaGreatDoor
end
section
namespace Go.Proofs.YthidbmeaccpjdaaGreatDoor
open Go.RowKit
set_option linter.unusedVariables false
theorem closeP_cons (z : UInt8) (d : Nat) (c : UInt8) (r : List UInt8) : closeP z d (c :: r) =
  if c = 92 then (closeP z d (r.drop 1)).map (· + 2) else if c = z then (if d = 1 then some 1 else (closeP z (d - 1) r).map (· + 1))
  else if c = 40 ∧ z = 41 then (closeP z (d + 1) r).map (· + 1) else (closeP z d r).map (· + 1) := by
 cases r with
 | nil =>
  unfold closeP
  by_cases h1 : c = 92
  ·rw [if_pos h1, if_pos h1]; unfold closeP; rfl
  ·rw [if_neg h1, if_neg h1]
   by_cases h2 : c = z
   ·rw [if_pos h2]
    by_cases h3 : d = 1
    ·rw [if_pos ⟨h2, h3⟩, if_pos h3]
    ·rw [if_neg (fun h => h3 h.2), if_neg h3]; rfl
   ·rw [if_neg (fun h => h2 h.1), if_neg h2]
    split <;> rfl
 | cons x t =>
  conv => lhs; unfold closeP
  rfl
theorem drop_at {l : List UInt8} {k : Nat} (hk : k < l.length) : l.drop k = l[k] :: l.drop (k + 1) := List.drop_eq_getElem_cons hk
def closedV (z : UInt8) (l : List UInt8) : Nat × Bool := match closeP z 1 (l.drop 1) with
 | some m => (m + 1, true)
 | none => (l.length, false)
theorem map_map_add (o : Option Nat) (a b : Nat) : (o.map (· + a)).map (· + b) = o.map (· + (a + b)) := by
 cases o with
 | none => rfl
 | some x =>
  show some (x + a + b) = some (x + (a + b))
  rw [Nat.add_assoc]
theorem u8_int_eq {c d : UInt8} : (c.toNat : Int) = (d.toNat : Int) ↔ c = d := ⟨fun h => UInt8.toNat_inj.1 (by omega), fun h => by rw [h]⟩
def ClRel (z : UInt8) (l : List UInt8) (d k : Nat) : Prop := closeP z 1 (l.drop 1) = (closeP z d (l.drop k)).map (· + (k - 1))
theorem tw_stop {p : UInt8 → Bool} : ∀ {l : List UInt8} {k : Nat} (hk : k < l.length), (∀ j (hj : j < l.length), j < k → p l[j] = true) → p l[k] = false → (l.takeWhile p).length = k
 | [], k, hk, _, _ => by simp at hk
 | a :: r, 0, hk, _, h => by
  have h' : p a = false := h
  rw [List.takeWhile_cons, if_neg (by rw [h']; simp)]; rfl
 | a :: r, k + 1, hk, h1, h => by
  have h0 : p a = true := h1 0 (by simp) (by omega)
  rw [List.takeWhile_cons, if_pos h0, List.length_cons, tw_stop (l := r) (k := k) (by simpa using hk) (fun j hj hjk => h1 (j + 1) (by simpa using hj) (by omega)) h]
theorem tw_all {p : UInt8 → Bool} : ∀ {l : List UInt8}, (∀ j (hj : j < l.length), p l[j] = true) → (l.takeWhile p).length = l.length
 | [], _ => rfl
 | a :: r, h => by
  have h0 : p a = true := h 0 (by simp)
  rw [List.takeWhile_cons, if_pos h0, List.length_cons, List.length_cons, tw_all (l := r) fun j hj => h (j + 1) (by simpa using hj)]
end Go.Proofs.YthidbmeaccpjdaaGreatDoor
end
section
namespace Go.Proofs.YthidbmeaccpjdaaGreatDoor
open Go.RowKit
set_option linter.unusedVariables false
theorem u8_back (c : UInt8) : ((c.toNat : Int)).toNat.toUInt8 = c := by
 show UInt8.ofNat _ = c
 simp
theorem index_any (c : UInt8) (w : World) : Calls Tryz.prog 128 #[.string ⟨#[40, 41, 60, 62, 91, 93, 58, 59, 64, 92, 44, 46, 34]⟩, .int .u8 (c.toNat : Int)] w fun e w' => e = .returned (.int .i64 (Lib.indexByte specials c)) ∧ w' = w := by
 refine (Tryz.strings_IndexByte _ (c.toNat : Int) w).mono ?_
 rintro e w' ⟨rfl, rfl⟩
 rw [u8_back]
 exact ⟨rfl, rfl⟩
theorem atomB_int (c : UInt8) : atomB c = (decide (32 < (c.toNat : Int)) && decide ((c.toNat : Int) ≠ 127) && !specials.contains c) := by
 unfold atomB
 have h1 : decide (32 < c) = decide (32 < (c.toNat : Int)) := by
  rw [Bool.eq_iff_iff, decide_eq_true_iff, decide_eq_true_iff, UInt8.lt_iff_toNat_lt]
  show (32 : Nat) < c.toNat ↔ _
  omega
 have h2 : (c != 127) = decide ((c.toNat : Int) ≠ 127) := by
  unfold bne
  rw [u8_beq, decide_not]
  rfl
 rw [h1, h2]
theorem tatom_any (c : UInt8) (w : World) : Calls Tryz.prog 204 #[.int .u8 (c.toNat : Int)] w fun e w' => e = .returned (.bool (atomB c)) ∧ w' = w := by
 have HF := Lib.hid (atomB_int c)
 have hix := index_any c
 have hs := specials_index c
 obtain ⟨v, hv⟩ : ∃ v, Lib.indexByte specials c = v := ⟨_, rfl⟩
 rw [hv] at hs
 simp only [hv] at hix
 obtain ⟨x, hx⟩ : ∃ x : Int, (c.toNat : Int) = x := ⟨_, rfl⟩
 rw [hx] at HF ⊢
 simp only [hx] at hix
 have HIX := Lib.hid hix
 have HS := Lib.hid hs
 clear hx hix hv hs
 by_cases e1 : 32 < x
 ·have g1 : decide (32 < x) = true := decide_eq_true e1
  by_cases e2 : x = 127
  ·have g2 : (x != 127) = false := by simp [e2]
   have HG := Lib.hid (show atomB c = false by rw [HF.out]; simp [e2])
   clear HF e1 e2
   go_enter Tryz.func204, Tryz.ntmps204
   go_wp2
   go_ret
   exact ⟨by rw [HG.out]; rfl, rfl⟩
  ·have g2 : (x != 127) = true := by simpa using e2
   have HG := Lib.hid (show atomB c = decide (v < 0) by rw [HF.out, HS.out, g1]; simp [e2])
   clear HF e1 e2
   go_enter Tryz.func204, Tryz.ntmps204
   go_wp2_with fail
   refine (HIX.out w).mono ?_
   rintro e w' ⟨rfl, rfl⟩
   go_wp2
   go_ret
   exact ⟨by rw [HG.out]; rfl, rfl⟩
 ·have g1 : decide (32 < x) = false := decide_eq_false e1
  have HG := Lib.hid (show atomB c = false by rw [HF.out, g1]; rfl)
  clear HF e1
  go_enter Tryz.func204, Tryz.ntmps204
  go_wp2
  go_ret
  exact ⟨by rw [HG.out]; rfl, rfl⟩
theorem row_blank (l : List UInt8) (w : World) (hl : l.length ≤ 1000000000) : Calls Tryz.prog 203 #[.string (ba l), .func (.func 202) #[] #[]] w fun e w' => e = .returned (.int .i64 ((l.takeWhile blankB).length : Nat)) ∧ w' = w := by
 have HN := Lib.hid (ba_size l)
 have HGET := Lib.hid (fun k (h : k < (ba l).size) => ba_get l k h)
 obtain ⟨s, hs⟩ : ∃ s, ba l = s := ⟨_, rfl⟩
 rw [hs] at HN ⊢
 have HS := Lib.hid hs
 clear hs
 obtain ⟨n, hn⟩ : ∃ n, l.length = n := ⟨_, rfl⟩
 have HL := Lib.hid hn
 rw [hn] at hl
 have HZ := Lib.hid (show s.size = n by rw [HN.out, hn])
 have hsz : (s.size : Int) = n := by rw [HZ.out]
 clear hn
 go_enter Tryz.func203, Tryz.ntmps203
 go_wp2
 go_loop [8] (fun i => ∃ k : Nat, k ≤ n ∧ i = .int .i64 (k : Int) ∧ Hid (∀ j (hj : j < l.length), j < k → blankB l[j] = true)) (fun i => n - (intOf i).toNat)
 case atStart => exact ⟨0, Nat.zero_le _, rfl, Lib.hid fun j _ h => absurd h (by omega)⟩
 case round =>
  obtain ⟨k, hk, rfl, HA⟩ := hrel
  by_cases hlt : k < n
  ·have hk2 : (k : Int) < (n : Int) := by omega
   have hk0 : (0 : Int) ≤ (k : Int) := by omega
   have hks : k < s.size := by rw [HZ.out]; exact hlt
   have hkl : k < l.length := by rw [HL.out]; exact hlt
   have hget : s[k] = l[k] := by
    have h := HS.out
    subst h
    rfl
   have HST := Lib.hid (tw_stop (p := blankB) hkl HA.out)
   have HNX := Lib.hid (show blankB l[k] = true → ∀ j (hj : j < l.length), j < k + 1 → blankB l[j] = true from fun h j hj hjk => by
    rcases Nat.lt_or_ge j k with h1 | h1
    ·exact HA.out j hj h1
    ·have : j = k := by omega
     subst this; exact h)
   obtain ⟨c, hc⟩ : ∃ c, l[k] = c := ⟨_, rfl⟩
   rw [hc] at hget HST HNX
   obtain ⟨b, hb⟩ : ∃ b, blankB c = b := ⟨_, rfl⟩
   have HC := Lib.hid (fun W => tblank_any c W)
   rw [hb] at HST HNX HC
   clear hc hkl
   go_wp2_with fail
   refine (HC.out w).mono ?_
   rintro e w' ⟨rfl, rfl⟩
   cases b
   ·have HF := Lib.hid (HST.out rfl)
    go_wp2
    go_ret
    exact ⟨by rw [HF.out]; rfl, rfl⟩
   ·have HX := Lib.hid (HNX.out rfl)
    go_wp2
    go_round
    case rel => exact ⟨k + 1, by omega, by go_num, HX⟩
    case measure => simp [intOf] <;> omega
  ·obtain rfl : k = n := by omega
   have HF := Lib.hid (show (l.takeWhile blankB).length = k by rw [tw_all fun j hj => HA.out j hj (by rw [HL.out] at hj; exact hj), HL.out])
   go_wp2
   go_ret
   exact ⟨by rw [HF.out]; simp, rfl⟩
theorem row_atom (l : List UInt8) (w : World) (hl : l.length ≤ 1000000000) : Calls Tryz.prog 203 #[.string (ba l), .func (.func 204) #[] #[]] w fun e w' => e = .returned (.int .i64 ((l.takeWhile atomB).length : Nat)) ∧ w' = w := by
 have HN := Lib.hid (ba_size l)
 have HGET := Lib.hid (fun k (h : k < (ba l).size) => ba_get l k h)
 obtain ⟨s, hs⟩ : ∃ s, ba l = s := ⟨_, rfl⟩
 rw [hs] at HN ⊢
 have HS := Lib.hid hs
 clear hs
 obtain ⟨n, hn⟩ : ∃ n, l.length = n := ⟨_, rfl⟩
 have HL := Lib.hid hn
 rw [hn] at hl
 have HZ := Lib.hid (show s.size = n by rw [HN.out, hn])
 have hsz : (s.size : Int) = n := by rw [HZ.out]
 clear hn
 go_enter Tryz.func203, Tryz.ntmps203
 go_wp2
 go_loop [8] (fun i => ∃ k : Nat, k ≤ n ∧ i = .int .i64 (k : Int) ∧ Hid (∀ j (hj : j < l.length), j < k → atomB l[j] = true)) (fun i => n - (intOf i).toNat)
 case atStart => exact ⟨0, Nat.zero_le _, rfl, Lib.hid fun j _ h => absurd h (by omega)⟩
 case round =>
  obtain ⟨k, hk, rfl, HA⟩ := hrel
  by_cases hlt : k < n
  ·have hk2 : (k : Int) < (n : Int) := by omega
   have hk0 : (0 : Int) ≤ (k : Int) := by omega
   have hks : k < s.size := by rw [HZ.out]; exact hlt
   have hkl : k < l.length := by rw [HL.out]; exact hlt
   have hget : s[k] = l[k] := by
    have h := HS.out
    subst h
    rfl
   have HST := Lib.hid (tw_stop (p := atomB) hkl HA.out)
   have HNX := Lib.hid (show atomB l[k] = true → ∀ j (hj : j < l.length), j < k + 1 → atomB l[j] = true from fun h j hj hjk => by
    rcases Nat.lt_or_ge j k with h1 | h1
    ·exact HA.out j hj h1
    ·have : j = k := by omega
     subst this; exact h)
   obtain ⟨c, hc⟩ : ∃ c, l[k] = c := ⟨_, rfl⟩
   rw [hc] at hget HST HNX
   obtain ⟨b, hb⟩ : ∃ b, atomB c = b := ⟨_, rfl⟩
   have HC := Lib.hid (fun W => tatom_any c W)
   rw [hb] at HST HNX HC
   clear hc hkl
   go_wp2_with fail
   refine (HC.out w).mono ?_
   rintro e w' ⟨rfl, rfl⟩
   cases b
   ·have HF := Lib.hid (HST.out rfl)
    go_wp2
    go_ret
    exact ⟨by rw [HF.out]; rfl, rfl⟩
   ·have HX := Lib.hid (HNX.out rfl)
    go_wp2
    go_round
    case rel => exact ⟨k + 1, by omega, by go_num, HX⟩
    case measure => simp [intOf] <;> omega
  ·obtain rfl : k = n := by omega
   have HF := Lib.hid (show (l.takeWhile atomB).length = k by rw [tw_all fun j hj => HA.out j hj (by rw [HL.out] at hj; exact hj), HL.out])
   go_wp2
   go_ret
   exact ⟨by rw [HF.out]; simp, rfl⟩
end Go.Proofs.YthidbmeaccpjdaaGreatDoor
end
section
namespace Go.Proofs.YthidbmeaccpjdaaGreatDoor
open Go.RowKit
set_option linter.unusedVariables false
set_option maxRecDepth 100000 in
set_option maxHeartbeats 4000000 in
theorem closed_any (z : UInt8) (l : List UInt8) (w : World) (hl : l.length ≤ 1000000000) (h1 : 1 ≤ l.length) :
  Calls Tryz.prog 205 #[.string (ba l), .int .u8 (z.toNat : Int)] w fun e w' => e = .returned (.tuple #[.int .i64 ((closedV z l).1 : Nat), .bool (closedV z l).2]) ∧ w' = w := by
 have HN := Lib.hid (ba_size l)
 obtain ⟨s, hs⟩ : ∃ s, ba l = s := ⟨_, rfl⟩
 rw [hs] at HN ⊢
 have HS := Lib.hid hs
 clear hs
 obtain ⟨n, hn⟩ : ∃ n, l.length = n := ⟨_, rfl⟩
 have HL := Lib.hid hn
 rw [hn] at hl h1
 have HZ := Lib.hid (show s.size = n by rw [HN.out, hn])
 clear hn
 obtain ⟨zi, hzi⟩ : ∃ x : Int, (z.toNat : Int) = x := ⟨_, rfl⟩
 have HZI := Lib.hid hzi
 rw [hzi]
 clear hzi
 go_enter Tryz.func205, Tryz.ntmps205
 have hsz : (s.size : Int) = n := by rw [HZ.out]
 go_wp2
 go_loop [6, 7] (fun dv i => ∃ d k : Nat, 1 ≤ k ∧ k ≤ n + 1 ∧ 1 ≤ d ∧ d ≤ k ∧ i = .int .i64 (k : Int) ∧ dv = .int .i64 (d : Int) ∧ Hid (ClRel z l d k)) (fun _ i => n + 1 - (intOf i).toNat)
 case atStart => exact ⟨1, 1, by omega, by omega, by omega, by omega, rfl, rfl, Lib.hid (by unfold ClRel; simp)⟩
 case round =>
  obtain ⟨d, k, hk1, hkn, hd1, hdk, rfl, rfl, HR⟩ := hrel
  by_cases hlt : k < n
  ·have hk2 : (k : Int) < (n : Int) := by omega
   have hk0 : (0 : Int) ≤ (k : Int) := by omega
   have hks : k < s.size := by rw [HZ.out]; exact hlt
   have hkl : k < l.length := by rw [HL.out]; exact hlt
   have hget : s[k] = l[k] := by
    have h := HS.out
    subst h
    rfl
   have hrel := HR.out
   unfold ClRel at hrel
   rw [drop_at hkl, closeP_cons] at hrel
   obtain ⟨c, hc⟩ : ∃ c, l[k] = c := ⟨_, rfl⟩
   rw [hc] at hget hrel
   have hgi : ((s[k]).toNat : Int) = (c.toNat : Int) := by rw [hget]
   obtain ⟨x, hx⟩ : ∃ x : Int, (c.toNat : Int) = x := ⟨_, rfl⟩
   rw [hx] at hgi
   have HX := Lib.hid hx
   have HREL := Lib.hid hrel
   clear hc hkl hget hx hrel
   by_cases e1 : x = 92
   ·have g1 : (x == 92) = true := by simpa using e1
    have HC := Lib.hid (show c = 92 from u8_int_eq.1 (by rw [HX.out]; exact e1))
    have HN2 := Lib.hid (show ClRel z l d (k + 2) by
     unfold ClRel
     have h := HREL.out
     rw [if_pos HC.out, List.drop_drop, map_map_add, show k + 1 + 1 = k + 2 by omega, show 2 + (k - 1) = k + 2 - 1 by omega] at h
     exact h)
    have gd : ((d : Int) == 0) = false := by simp; omega
    clear e1
    go_wp2
    go_round
    case rel => exact ⟨d, k + 2, by omega, by omega, by omega, by omega, by go_num, rfl, HN2⟩
    case measure => simp [intOf] <;> omega
   have g1 : (x == 92) = false := by simpa using e1
   have HC := Lib.hid (show ¬ c = 92 from fun h => e1 (by rw [← HX.out, h]; rfl))
   by_cases e2 : x = zi
   ·have g2 : (x == zi) = true := by simpa using e2
    have HE := Lib.hid (show c = z from u8_int_eq.1 (by rw [HX.out, HZI.out]; exact e2))
    by_cases hd : d = 1
    ·have HV := Lib.hid (show closedV z l = (k + 1, true) by
      unfold closedV
      have h := HREL.out
      rw [if_neg HC.out, if_pos HE.out, if_pos hd] at h
      rw [h]
      show (1 + (k - 1) + 1, true) = _
      rw [show 1 + (k - 1) + 1 = k + 1 by omega])
     subst hd
     clear e1 e2
     go_wp2
     go_ret2
     exact ⟨by rw [HV.out]; simp, rfl⟩
    ·have HN2 := Lib.hid (show ClRel z l (d - 1) (k + 1) by
      unfold ClRel
      have h := HREL.out
      rw [if_neg HC.out, if_pos HE.out, if_neg hd, map_map_add, show 1 + (k - 1) = k + 1 - 1 by omega] at h
      exact h)
     have gd : ((d : Int) - 1 == 0) = false := by simp; omega
     have hd2 : (1 : Int) ≤ (d : Int) - 1 := by omega
     clear e1 e2
     go_wp2
     go_round
     case rel => exact ⟨d - 1, k + 1, by omega, by omega, by omega, by omega, by go_num, by rw [show ((d - 1 : Nat) : Int) = (d : Int) - 1 by omega], HN2⟩
     case measure => simp [intOf] <;> omega
   have g2 : (x == zi) = false := by simpa using e2
   have HE := Lib.hid (show ¬ c = z from fun h => e2 (by rw [← HX.out, ← HZI.out, h]))
   by_cases e3 : x = 40
   ·have g3 : (x == 40) = true := by simpa using e3
    have HC4 := Lib.hid (show c = 40 from u8_int_eq.1 (by rw [HX.out]; exact e3))
    by_cases e4 : zi = 41
    ·have g4 : (zi == 41) = true := by simpa using e4
     have HZ4 := Lib.hid (show z = 41 from u8_int_eq.1 (by rw [HZI.out]; exact e4))
     have HN2 := Lib.hid (show ClRel z l (d + 1) (k + 1) by
      unfold ClRel
      have h := HREL.out
      rw [if_neg HC.out, if_neg HE.out, if_pos ⟨HC4.out, HZ4.out⟩, map_map_add, show 1 + (k - 1) = k + 1 - 1 by omega] at h
      exact h)
     have gd : ((d : Int) + 1 == 0) = false := by simp; omega
     clear e1 e2 e3 e4
     go_wp2
     go_round
     case rel => exact ⟨d + 1, k + 1, by omega, by omega, by omega, by omega, by go_num, by go_num, HN2⟩
     case measure => simp [intOf] <;> omega
    ·have g4 : (zi == 41) = false := by simpa using e4
     have HN2 := Lib.hid (show ClRel z l d (k + 1) by
      unfold ClRel
      have h := HREL.out
      rw [if_neg HC.out, if_neg HE.out, if_neg (fun hh => e4 (by rw [← HZI.out, hh.2]; rfl)), map_map_add, show 1 + (k - 1) = k + 1 - 1 by omega] at h
      exact h)
     have gd : ((d : Int) == 0) = false := by simp; omega
     clear e1 e2 e3 e4
     go_wp2
     go_round
     case rel => exact ⟨d, k + 1, by omega, by omega, by omega, by omega, by go_num, rfl, HN2⟩
     case measure => simp [intOf] <;> omega
   ·have g3 : (x == 40) = false := by simpa using e3
    have HN2 := Lib.hid (show ClRel z l d (k + 1) by
     unfold ClRel
     have h := HREL.out
     rw [if_neg HC.out, if_neg HE.out, if_neg (fun hh => e3 (by rw [← HX.out, hh.1]; rfl)), map_map_add, show 1 + (k - 1) = k + 1 - 1 by omega] at h
     exact h)
    have gd : ((d : Int) == 0) = false := by simp; omega
    clear e1 e2 e3
    go_wp2
    go_round
    case rel => exact ⟨d, k + 1, by omega, by omega, by omega, by omega, by go_num, rfl, HN2⟩
    case measure => simp [intOf] <;> omega
  ·have hk2 : ¬ (k : Int) < (n : Int) := by omega
   have HV := Lib.hid (show closedV z l = (n, false) by
    unfold closedV
    have h := HR.out
    unfold ClRel at h
    rw [List.drop_of_length_le (show l.length ≤ k by rw [HL.out]; omega)] at h
    have h0 : closeP z d [] = none := by unfold closeP; rfl
    rw [h0] at h
    rw [h]
    show (l.length, false) = _
    rw [HL.out])
   go_wp2
   go_ret2
   exact ⟨by rw [HV.out]; simp, rfl⟩
end Go.Proofs.YthidbmeaccpjdaaGreatDoor
end
