/- Rows of pouch/api.Param in memory: read, owned, grown by one or by a row (printed by gen_row.py). Layer 12: rows read, lengths, the state of list's first loop. -/
import Derived.Test.YtnpgnohlcphfnaaGreatDoorM01
import Derived.Test.YtnpgnohlcphfnaaGreatDoorM11
import Derived.Test.YtnpgnohlcphfnaaGreatDoorM12
import Derived.Test.YtnpgnohlcphfnaaGreatDoorM08
section
namespace Go.Proofs.YtnpgnohlcphfnaaGreatDoor
open Go.RowKit
set_option linter.unusedVariables false

theorem par_info : (Tryz.prog.info? 37).map (fun i => (i.zero, i.size, i.bytes)) = some (some (.agg #[.string ByteArray.empty, .string ByteArray.empty]), 2, 32) := by kernel_rfl
def parCells (t : List UInt8 × List UInt8) : List Value := [.string (ba (t.1)), .string (ba (t.2))]
def ParOk (t : List UInt8 × List UInt8) : Prop := True
/-- 'A' with 'n' places reads as the elements 'ts', in memory below B. -/
def Pars (w : World) (B : Nat) (A : Option Addr) (n : Nat) (ts : List (List UInt8 × List UInt8)) : Prop :=
  n = ts.length ∧ ∀ k (hk : k < ts.length), ∃ ad, A = some ad ∧ (ad.add (k * 2)).block < B ∧ w.cell? (ad.add (k * 2)) = some (.string (ba (ts[k].1))) ∧ w.cell? ⟨(ad.add (k * 2)).block, (ad.add (k * 2)).off + 1, none⟩ = some (.string (ba (ts[k].2))) ∧ ParOk ts[k]
section
variable {w w' : World} {B B' n : Nat} {A : Option Addr} {ts : List (List UInt8 × List UInt8)}
theorem Pars.below (h : Pars w B A n ts) (hb : Below B w w') : Pars w' B A n ts := by
  refine ⟨h.1, fun k hk => ?_⟩
  obtain ⟨ad, e, h1, c0, c1, h5⟩ := h.2 k hk
  exact ⟨ad, e, h1, (hb.cell h1).trans c0, (hb.cell (p := ⟨(ad.add (k * 2)).block, _, none⟩) h1).trans c1, h5⟩
theorem Pars.more (h : Pars w B A n ts) (hB : B ≤ B') : Pars w B' A n ts := by
  refine ⟨h.1, fun k hk => ?_⟩
  obtain ⟨ad, e, h1, h2⟩ := h.2 k hk
  exact ⟨ad, e, Nat.lt_of_lt_of_le h1 hB, h2⟩
theorem Pars.nil_ : Pars w B A 0 [] := ⟨rfl, fun k hk => by simp at hk⟩
theorem Pars.len (h : Pars w B A n ts) : ts.length = n := h.1.symm
theorem Pars.cutA (h : Pars w B A n ts) (k : Nat) (hk : k ≤ n) : Pars w B A k (ts.take k) := by
  refine ⟨by rw [List.length_take, h.len]; omega, fun j hj => ?_⟩
  rw [List.length_take] at hj
  have := h.2 j (by omega)
  rw [List.getElem_take]
  exact this
theorem Pars.cutB {ad : Addr} (h : Pars w B (some ad) n ts) (k : Nat) (hk : k ≤ n) : Pars w B (some (ad.add (k * 2))) (n - k) (ts.drop k) := by
  refine ⟨by rw [List.length_drop, h.len], fun j hj => ?_⟩
  rw [List.length_drop] at hj
  obtain ⟨ad', e, r⟩ := h.2 (k + j) (by omega)
  injection e with e
  subst e
  refine ⟨_, rfl, ?_⟩
  rw [add_add', show k * 2 + j * 2 = (k + j) * 2 by omega, List.getElem_drop]
  exact r
end
/-- v owns the elements ts, in a row of its own from B on. -/
structure OwnPars (w : World) (B : Nat) (v : Value) (ts : List (List UInt8 × List UInt8)) : Prop where
  row : w.ownsRow B 37 2 v ts.length (ts.flatMap parCells)
  each : ∀ t, t ∈ ts → ParOk t
theorem OwnPars.nil_ (w : World) (B : Nat) : OwnPars w B (.slice none 0 0) [] := ⟨World.ownsRow_nil _ _ _ _, fun t h => by cases h⟩
theorem OwnPars.below {w w' : World} {B : Nat} {v : Value} {ts : List (List UInt8 × List UInt8)} (h : OwnPars w B v ts) (hb : Below w.heap.size w w') : OwnPars w' B v ts :=
  ⟨ownsRow_block h.row fun b e => hb.block b (h.row.lt b e).2, h.each⟩
theorem OwnPars.block {w w' : World} {B : Nat} {v : Value} {ts : List (List UInt8 × List UInt8)} (h : OwnPars w B v ts) (hb : ∀ b, v.ownBlock = some b → w'.heap[b]? = w.heap[b]?) : OwnPars w' B v ts := ⟨ownsRow_block h.row hb, h.each⟩
theorem OwnPars.more {w : World} {B B' : Nat} {v : Value} {ts : List (List UInt8 × List UInt8)} (h : OwnPars w B v ts) (hB : B' ≤ B) : OwnPars w B' v ts := by
  obtain ⟨⟨h0, h1⟩, h2⟩ := h
  refine ⟨⟨h0, ?_⟩, h2⟩
  rcases h1 with h1 | ⟨g, cap, cur, e, hb, r⟩
  · exact .inl h1
  · exact .inr ⟨g, cap, cur, e, by omega, r⟩
theorem par_len (ts : List (List UInt8 × List UInt8)) : (ts.flatMap parCells).length = ts.length * 2 := by induction ts with | nil => rfl | cons a r ih => simp [parCells] at ih ⊢; omega
theorem par_get : ∀ (ts : List (List UInt8 × List UInt8)) j (hj : j < ts.length) i (hi : i < 2), (ts.flatMap parCells)[j * 2 + i]? = (parCells ts[j])[i]? := fun ts => by
  induction ts with
  | nil => intro j hj; simp at hj
  | cons a r ih =>
    intro j hj i hi
    cases j with
    | zero =>
      simp only [List.flatMap_cons, List.getElem_cons_zero, Nat.zero_mul, Nat.zero_add]
      rw [List.getElem?_append_left (by simp [parCells]; omega)]
    | succ j =>
      have := ih j (by simpa using hj) i hi
      simp only [List.flatMap_cons, List.getElem_cons_succ]
      rw [List.getElem?_append_right (by simp [parCells]; omega), show (j + 1) * 2 + i - (parCells a).length = j * 2 + i by simp [parCells]; omega]
      exact this
theorem par_addS (a : Addr) {i : Nat} (hi : i ≠ 0) : a.add i = ⟨a.block, a.off + i, none⟩ := by unfold Addr.add; rw [if_neg hi]
/-- Elements that a slice owns, read. -/
theorem OwnPars.reads {w : World} {B : Nat} {v : Value} {ts : List (List UInt8 × List UInt8)} (h : OwnPars w B v ts) : ∃ A c, v = .slice A ts.length c ∧ ts.length ≤ c ∧ c ≤ maxLen ∧ Pars w w.heap.size A ts.length ts := by
  have h0 := h.row
  rcases h0.2 with ⟨rfl, hn⟩ | ⟨g, cap, cur, rfl, hb, hg, q1, q2, q3⟩
  · have : ts = [] := List.eq_nil_of_length_eq_zero hn
    subst this
    exact ⟨none, 0, rfl, Nat.le_refl _, by simp, Pars.nil_⟩
  · refine ⟨_, cap, rfl, q1, q2, rfl, fun k hk => ?_⟩
    have hc : ∀ i u, i < 2 → (parCells ts[k])[i]? = some u → w.cell? ⟨g, k * 2 + i, none⟩ = some u := fun i u hi hu => by
      have := h0.cells (g := g) rfl (k * 2 + i) u (by rw [par_get ts k hk i hi]; exact hu)
      unfold Addr.add at this
      by_cases e0 : k * 2 + i = 0
      · rw [if_pos e0] at this; rw [e0]; exact this
      · rw [if_neg e0] at this; rw [Nat.zero_add] at this; exact this
    have e1 : (Addr.add ⟨g, 0, none⟩ (k * 2)) = ⟨g, k * 2, none⟩ := by
      unfold Addr.add
      split
      · rename_i e0; rw [e0]
      · rw [Nat.zero_add]
    refine ⟨⟨g, 0, none⟩, rfl, by rw [add_block]; exact heap_lt hg, ?_, ?_, h.each _ (List.getElem_mem hk)⟩
    · rw [e1]; exact hc 0 _ (by omega) rfl
    · rw [e1]; exact hc 1 _ (by omega) rfl
theorem OwnPars.unfrozen {w : World} {B n c : Nat} {ad : Addr} {ts : List (List UInt8 × List UInt8)} (h : OwnPars w B (.slice (some ad) n c) ts) (i : Nat) : w.frozen? ⟨ad.block, i, none⟩ = false ∧ ad.block < w.heap.size := by
  rcases h.row.2 with ⟨e, _⟩ | ⟨g', cap, cur, e, _, hg, _⟩
  · cases e
  · injection e with e
    injection e with e
    subst e
    exact ⟨by simp [World.frozen?, hg], heap_lt hg⟩
theorem par_one (l : List (List UInt8 × List UInt8)) : ∀ u ∈ l.flatMap parCells, u.oneCell' = true := by
  intro u hu
  obtain ⟨t, _, ht⟩ := List.mem_flatMap.1 hu
  simp only [parCells, List.mem_cons, List.not_mem_nil, or_false] at ht
  rcases ht with rfl | rfl <;> rfl
set_option maxRecDepth 100000 in
theorem run_pushPar {W : World} {B : Nat} {v : Value} {ts : List (List UInt8 × List UInt8)} {x0 : List UInt8} {x1 : List UInt8} (hT : OwnPars W B v ts) (hB : B ≤ W.heap.size) (hf : ParOk (⟨x0, x1⟩ : List UInt8 × List UInt8)) (hlen : ts.length ≤ 1000000000) (c : Nat) (ty : TypeId) :
    ∃ v' w', (Builtin.append_ #[24, 24] ty #[v, .slice (some ⟨W.heap.size, 0, none⟩) 1 c]).run Tryz.prog (W.alloc (.cells #[.string (ba x0), .string (ba x1)] 37)) = .ok v' w' ∧ OwnPars w' B v' (ts ++ [(⟨x0, x1⟩ : List UInt8 × List UInt8)]) ∧ W.grownBy w' v.ownBlock := by
  obtain ⟨i0, hi, hz0, hz1, hz2⟩ := info_parts par_info
  obtain ⟨v', w', hrun, h1, h2, _, h4⟩ := run_append_own_at (P := Tryz.prog) (W.alloc (.cells #[.string (ba x0), .string (ba x1)] 37)) B 24 ty 37 i0 _ 2 32 Tryz.underlying24 hi hz0 hz1 hz2 rfl (by omega) v ts.length (ts.flatMap parCells) (World.ownsRow.alloc hT.row _) ⟨W.heap.size, 0, none⟩ 1 c (parCells (⟨x0, x1⟩ : List UInt8 × List UInt8)) rfl (World.news_of_block (MapKept.heap_alloc W _).1) (fun u hu => par_one [(⟨x0, x1⟩ : List UInt8 × List UInt8)] u (by simpa using hu)) (by simp only [maxLen]; omega) (by omega) (by simp; omega)
  have h5 := World.grownBy_alloc W (.cells #[.string (ba x0), .string (ba x1)] 37) v.ownBlock
  refine ⟨v', w', hrun, ⟨by simpa using h1, fun t ht => ?_⟩, ⟨h2.os.trans h5.os, h2.tape.trans h5.tape, h2.output.trans h5.output, Nat.le_trans h5.size h2.size, fun k hk hne => (h2.block k (by simp; omega) hne).trans (h5.block k hk hne)⟩⟩
  rcases List.mem_append.1 ht with ht | ht
  · exact hT.each t ht
  · rw [List.mem_singleton] at ht; subst ht; exact hf
theorem wp_pushPar {o : Oper} {a : Act} {K : Act → World → Prop} {W : World} {Q : Exit → Act → World → Prop} {B : Nat} {v : Value} {ts : List (List UInt8 × List UInt8)} {x0 : List UInt8} {x1 : List UInt8} (hT : OwnPars W B v ts) (hB : B ≤ W.heap.size) (hf : ParOk (⟨x0, x1⟩ : List UInt8 × List UInt8))
    (hlen : ts.length ≤ 1000000000) (s y : Operand) (c : Nat)
    (ho : o.op = .call { callee := .builtin .append, args := #[s, y], argTypes := #[24, 24] }) (hs : a.eval s = v) (hx : a.eval y = .slice (some ⟨W.heap.size, 0, none⟩) 1 c)
    (h : ∀ v' w', OwnPars w' B v' (ts ++ [(⟨x0, x1⟩ : List UInt8 × List UInt8)]) → W.grownBy w' v.ownBlock → K (a.put o.dst v') w') : o.wp Tryz.prog a (W.alloc (.cells #[.string (ba x0), .string (ba x1)] 37)) K Q := by
  obtain ⟨v', w', hrun, h1, h2⟩ := run_pushPar hT hB hf hlen c o.type
  unfold Oper.wp execOp
  simp only [ho, resolve, invoke, builtin, Sem.run_bind, Sem.run_pure, Result.andThen_ok, List.map_toArray, List.map_cons, List.map_nil, hs, hx, hrun]
  exact h v' w' h1 h2
theorem step_pushPar {ops : Array Oper} {o : Oper} {a : Act} {W : World} {K : Act → World → Prop} {Q : Exit → Act → World → Prop} {E : Prop} {B : Nat} {v : Value} {ts : List (List UInt8 × List UInt8)} {x0 : List UInt8} {x1 : List UInt8} (hT : OwnPars W B v ts) (hB : B ≤ W.heap.size) (hf : ParOk (⟨x0, x1⟩ : List UInt8 × List UInt8))
    (hlen : ts.length ≤ 1000000000) (hgd : o.guard = none) (s y : Operand) (c : Nat)
    (ho : o.op = .call { callee := .builtin .append, args := #[s, y], argTypes := #[24, 24] }) (hs : a.eval s = v) (hx : a.eval y = .slice (some ⟨W.heap.size, 0, none⟩) 1 c)
    (h : ∀ v' w', OwnPars w' B v' (ts ++ [(⟨x0, x1⟩ : List UInt8 × List UInt8)]) → W.grownBy w' v.ownBlock → K (a.put o.dst v') w') :
    if Region.wanted o (yielded ops a.tmps) = true then Oper.wp Tryz.prog o a (W.alloc (.cells #[.string (ba x0), .string (ba x1)] 37)) K Q else E := by
  have hw : Region.wanted o (yielded ops a.tmps) = true := by simp [Region.wanted, hgd]
  rw [if_pos hw]
  exact wp_pushPar hT hB hf hlen s y c ho hs hx h
theorem wpList_pushPar {ops : Array Oper} {rest : List Oper} {o : Oper} {a : Act} {W : World} {Q : Exit → Act → World → Prop} {B : Nat} {v : Value} {ts : List (List UInt8 × List UInt8)} {x0 : List UInt8} {x1 : List UInt8} (hT : OwnPars W B v ts) (hB : B ≤ W.heap.size) (hf : ParOk (⟨x0, x1⟩ : List UInt8 × List UInt8))
    (hlen : ts.length ≤ 1000000000) (hgd : o.guard = none) (s y : Operand) (c : Nat)
    (ho : o.op = .call { callee := .builtin .append, args := #[s, y], argTypes := #[24, 24] }) (hs : a.eval s = v) (hx : a.eval y = .slice (some ⟨W.heap.size, 0, none⟩) 1 c)
    (h : ∀ v' w', OwnPars w' B v' (ts ++ [(⟨x0, x1⟩ : List UInt8 × List UInt8)]) → W.grownBy w' v.ownBlock → wpList Tryz.prog ops Q rest (a.put o.dst v') w') :
    wpList Tryz.prog ops Q (o :: rest) a (W.alloc (.cells #[.string (ba x0), .string (ba x1)] 37)) :=
  wpList_plain hgd fun _ hK => wp_pushPar hT hB hf hlen s y c ho hs hx fun v' w' h2 h3 => hK _ _ (h v' w' h2 h3)
theorem Pars.cells {w : World} {B m : Nat} {ad : Addr} {l : List (List UInt8 × List UInt8)} (h : Pars w B (some ad) m l) : ∀ j u, (l.flatMap parCells)[j]? = some u → w.cell? (ad.add j) = some u := by
  intro j u hu
  have hj : j < l.length * 2 := by have := (List.getElem?_eq_some_iff.1 hu).1; rw [par_len] at this; exact this
  obtain ⟨k, i, hi, rfl⟩ : ∃ k i, i < 2 ∧ j = k * 2 + i := ⟨j / 2, j % 2, by omega, by omega⟩
  have hk : k < l.length := by omega
  rw [par_get l k hk i hi] at hu
  obtain ⟨ad', e, _, c0, c1, _⟩ := h.2 k hk
  injection e with e
  subst e
  rw [← add_add']
  match i, hi with
  | 0, _ =>
    have hu' : Value.string (ba (l[k].1)) = u := Option.some.inj hu
    subst hu'
    have e0 : (ad.add (k * 2)).add 0 = ad.add (k * 2) := by unfold Addr.add; rfl
    rw [e0]; exact c0
  | 1, _ =>
    have hu' : Value.string (ba (l[k].2)) = u := Option.some.inj hu
    subst hu'
    rw [par_addS _ (by decide)]; exact c1
set_option maxRecDepth 100000 in
theorem run_nonePar (w : World) (B : Nat) (t ty : TypeId) (ht : Tryz.prog.underlying t = some (.slice 37)) (v : Value) (acc : List (List UInt8 × List UInt8)) (hown : OwnPars w B v acc) (c : Nat) : (Builtin.append_ #[t, t] ty #[v, .slice none 0 c]).run Tryz.prog w = .ok v w := by
  obtain ⟨i0, hi, hz0, hz1, hz2⟩ := info_parts par_info
  rcases hown.row.2 with ⟨rfl, _⟩ | ⟨g, cap, cur, rfl, _, _, hnc, _⟩
  · simp [Builtin.append_, run_underlying ht, sizeOf, typeInfo, hi, Builtin.lenOf, Builtin.firstCells]
  · simp [Builtin.append_, run_underlying ht, sizeOf, typeInfo, hi, Builtin.lenOf, Builtin.firstCells, hnc, storeCells]
set_option maxRecDepth 100000 in
theorem run_joinPar (w : World) (B : Nat) (t ty : TypeId) (ht : Tryz.prog.underlying t = some (.slice 37)) (v : Value) (acc : List (List UInt8 × List UInt8)) (hown : OwnPars w B v acc) (hB : B ≤ w.heap.size)
    (D : Nat) (A : Option Addr) (m c : Nat) (l : List (List UInt8 × List UInt8)) (hr : Pars w D A m l) (hlen : acc.length + m ≤ 1000000000) :
    ∃ v' w', (Builtin.append_ #[t, t] ty #[v, .slice A m c]).run Tryz.prog w = .ok v' w' ∧ OwnPars w' B v' (acc ++ l) ∧ w.grownBy w' v.ownBlock ∧ (v'.ownBlock = v.ownBlock ∨ ∃ k, v'.ownBlock = some k ∧ w.heap.size ≤ k) := by
  obtain ⟨i0, hi, hz0, hz1, hz2⟩ := info_parts par_info
  have hml := hr.len
  rcases A with _ | ad
  · have hl : l = [] := by
      cases l with
      | nil => rfl
      | cons a r => obtain ⟨ad, e, _⟩ := hr.2 0 (by simp); cases e
    subst hl
    obtain rfl : m = 0 := hml.symm
    exact ⟨v, w, run_nonePar w B t ty ht v acc hown c, by simpa using hown, World.grownBy.refl w _, .inl rfl⟩
  · obtain ⟨v', w', hrun, h2, h3, _, h5⟩ := run_append_own_at (P := Tryz.prog) w B t ty 37 i0 _ 2 32 ht hi hz0 hz1 hz2 rfl (by omega) v acc.length (acc.flatMap parCells) hown.row ad m c (l.flatMap parCells) (by rw [par_len, hml]) hr.cells (par_one l) (by simp only [maxLen]; omega) (by omega) hB
    refine ⟨v', w', hrun, ⟨?_, fun t ht => ?_⟩, h3, ?_⟩
    · rw [List.flatMap_append, List.length_append, hml]; exact h2
    · rcases List.mem_append.1 ht with ht | ht
      · exact hown.each t ht
      · obtain ⟨k, hk, rfl⟩ := List.getElem_of_mem ht
        obtain ⟨_, _, _, _, _, hb⟩ := hr.2 k hk
        exact hb
    · rcases h5 with h | h
      · exact .inl h
      · exact .inr ⟨_, h, Nat.le_refl _⟩
theorem wpList_joinPar {ops : Array Oper} {rest : List Oper} {o : Oper} {a : Act} {w : World} {Q : Exit → Act → World → Prop} {B : Nat} {v : Value} {acc : List (List UInt8 × List UInt8)} (hown : OwnPars w B v acc) (hB : B ≤ w.heap.size)
    {D : Nat} {A : Option Addr} {m : Nat} {l : List (List UInt8 × List UInt8)} (hr : Pars w D A m l) (hlen : acc.length + m ≤ 1000000000) (hgd : o.guard = none) (s x : Operand) (t : TypeId) (c : Nat)
    (ho : o.op = .call { callee := .builtin .append, args := #[s, x], argTypes := #[t, t] }) (ht : Tryz.prog.underlying t = some (.slice 37)) (hs : a.eval s = v) (hx : a.eval x = .slice A m c)
    (h : ∀ v' w', OwnPars w' B v' (acc ++ l) → w.grownBy w' v.ownBlock → (v'.ownBlock = v.ownBlock ∨ ∃ k, v'.ownBlock = some k ∧ w.heap.size ≤ k) → wpList Tryz.prog ops Q rest (a.put o.dst v') w') : wpList Tryz.prog ops Q (o :: rest) a w := by
  refine wpList_plain hgd fun K hK => ?_
  obtain ⟨v', w', hrun, h2, h3, h4⟩ := run_joinPar w B t o.type ht v acc hown hB D A m c l hr hlen
  unfold Oper.wp execOp
  simp only [ho, resolve, invoke, builtin, Sem.run_bind, Sem.run_pure, Result.andThen_ok, List.map_toArray, List.map_cons, List.map_nil, hs, hx, hrun]
  exact hK _ _ (h v' w' h2 h3 h4)
end Go.Proofs.YtnpgnohlcphfnaaGreatDoor
end
section
namespace Go.Proofs.YtnpgnohlcphfnaaGreatDoor
open Go.RowKit
set_option linter.unusedVariables false

theorem unescP_len : ∀ (n : Nat) (l : List UInt8), l.length ≤ n → (unescP l).length ≤ l.length
  | 0, l, h => by
    have : l = [] := List.eq_nil_of_length_eq_zero (by omega)
    subst this
    exact Nat.le_refl _
  | n + 1, [], _ => Nat.le_refl _
  | n + 1, [c], _ => by
    show (if c = 92 then ([] : List UInt8) else if c = 10 ∨ c = 13 then [] else [c]).length ≤ 1
    split
    · simp
    · split <;> simp
  | n + 1, c :: x :: r, h => by
    have h0 : r.length + 2 ≤ n + 1 := by simpa using h
    have h1 := unescP_len n r (by omega)
    have h2 := unescP_len n (x :: r) (by simp only [List.length_cons]; omega)
    show (if c = 92 then x :: unescP r else if c = 10 ∨ c = 13 then unescP (x :: r) else c :: unescP (x :: r)).length ≤ (c :: x :: r).length
    simp only [List.length_cons] at h2 ⊢
    split
    · simp only [List.length_cons]; omega
    · split
      · omega
      · simp only [List.length_cons]; omega
theorem meanP_len (t : Tok) : (meanP t).length ≤ t.text.length := by
  unfold meanP
  split
  · exact Nat.le_refl _
  · refine Nat.le_trans (unescP_len _ _ (Nat.le_refl _)) ?_
    rw [List.length_take, List.length_drop]
    omega
theorem restV_len (b : List UInt8) (r : List Tok) : (restV b r).length ≤ b.length + (joinP r).length := by
  have key : (b ++ joinP r).length ≤ b.length + (joinP r).length := by rw [List.length_append]; exact Nat.le_refl _
  cases b with
  | cons x y => exact key
  | nil =>
    cases r with
    | nil => exact key
    | cons u r' =>
      show (if u.kind = 2 then meanP u else joinP (u :: r')).length ≤ _
      split
      · have h1 := meanP_len u
        have h2 : (joinP (u :: r')).length = u.text.length + (joinP r').length := by unfold joinP; rw [List.flatMap_cons, List.length_append]
        rw [h2]
        simp only [List.length_nil]
        omega
      · simp
theorem pairG_len : ∀ (r : List Tok) (a : List UInt8), ((pairG a r).getD ([], [])).1.length ≤ a.length + (joinP r).length ∧ ((pairG a r).getD ([], [])).2.length ≤ a.length + (joinP r).length
  | [], a => by
    show (([] : List UInt8)).length ≤ _ ∧ (([] : List UInt8)).length ≤ _
    simp
  | t :: r, a => by
    have hj : (joinP (t :: r)).length = t.text.length + (joinP r).length := by unfold joinP; rw [List.flatMap_cons, List.length_append]
    by_cases h : t.kind = 1 ∧ (cutV 61 t.text).2.2 = true
    · obtain ⟨⟨x, y, z⟩, hc⟩ : ∃ q, cutV 61 t.text = q := ⟨_, rfl⟩
      have hl := cutV_len 61 t.text
      rw [hc] at hl h
      have hz : z = true := h.2
      subst hz
      rw [pairG_hit h.1 hc]
      have h2 := restV_len y r
      have h3 : (smallP (a ++ x)).length = a.length + x.length := by rw [smallP_len, List.length_append]
      show (smallP (a ++ x)).length ≤ _ ∧ (restV y r).length ≤ _
      have h4 : x.length ≤ t.text.length := hl.1
      have h5 : y.length ≤ t.text.length := hl.2
      omega
    · have h2 : t.kind ≠ 1 ∨ (cutV 61 t.text).2.2 = false := by
        by_cases hk : t.kind = 1
        · refine .inr ?_
          cases hz : (cutV 61 t.text).2.2 with
          | false => rfl
          | true => exact absurd ⟨hk, hz⟩ h
        · exact .inl hk
      rw [pairG_skip h2]
      have h3 := pairG_len r (a ++ t.text)
      rw [List.length_append] at h3
      rw [hj]
      omega
theorem pairP_len (l : List Tok) : (pairP l).1.length ≤ (joinP l).length ∧ (pairP l).2.length ≤ (joinP l).length := by
  have := pairG_len l []
  simp only [List.length_nil, Nat.zero_add] at this
  exact this
theorem whereP_len (n : List UInt8) : (whereP n).name.length ≤ n.length := by
  obtain ⟨m, hm⟩ : ∃ m, (if (decide (1 < n.length) && decide (n.getLast? = some 42)) = true then n.dropLast else n) = m := ⟨_, rfl⟩
  have hl : m.length ≤ n.length := by
    subst hm
    split
    · rw [List.length_dropLast]; omega
    · exact Nat.le_refl _
  cases h : lastP 42 m with
  | none =>
    rw [whereP_none n _ m rfl hm h]
    exact hl
  | some q =>
    obtain ⟨a, b⟩ := q
    have h1 := (lastP_some h).1
    have h2 : a.length ≤ m.length := by rw [h1, List.length_append]; omega
    cases h4 : decP b 0 63 with
    | none => rw [whereP_bad n _ m rfl hm a b h h4]; exact hl
    | some v => rw [whereP_num n _ m rfl hm a b h v h4]; exact Nat.le_trans h2 hl
theorem decP_range {l : List UInt8} {lo hi v : Int} (h : decP l lo hi = some v) : lo ≤ v ∧ v ≤ hi := by
  rw [decP_eq] at h
  split at h
  · rename_i h2
    injection h with h
    rw [← h]
    exact h2.2
  · cases h
theorem whereP_sec (n : List UInt8) : -1 ≤ (whereP n).section_ ∧ (whereP n).section_ ≤ 63 := by
  obtain ⟨m, hm⟩ : ∃ m, (if (decide (1 < n.length) && decide (n.getLast? = some 42)) = true then n.dropLast else n) = m := ⟨_, rfl⟩
  cases h : lastP 42 m with
  | none => rw [whereP_none n _ m rfl hm h]; exact ⟨by show (-1 : Int) ≤ -1; omega, by show (-1 : Int) ≤ 63; omega⟩
  | some q =>
    obtain ⟨a, b⟩ := q
    cases h4 : decP b 0 63 with
    | none => rw [whereP_bad n _ m rfl hm a b h h4]; exact ⟨by show (-1 : Int) ≤ -1; omega, by show (-1 : Int) ≤ 63; omega⟩
    | some v =>
      rw [whereP_num n _ m rfl hm a b h v h4]
      have := decP_range h4
      exact ⟨by show (-1 : Int) ≤ v; omega, this.2⟩
/-- The names are each a one's. -/
theorem namesP_mem : ∀ (ones : List One1) (a : List (List UInt8)) (x : List UInt8), x ∈ ones.foldl (fun a x => if x.at_.name ∈ a then a else a ++ [x.at_.name]) a → x ∈ a ∨ ∃ o ∈ ones, o.at_.name = x
  | [], a, x, h => .inl h
  | o :: r, a, x, h => by
    rw [List.foldl_cons] at h
    rcases namesP_mem r _ x h with h | ⟨p, hp, e⟩
    · split at h
      · exact .inl h
      · rcases List.mem_append.1 h with h | h
        · exact .inl h
        · rw [List.mem_singleton] at h
          exact .inr ⟨o, List.mem_cons_self .., h.symm⟩
    · exact .inr ⟨p, List.mem_cons_of_mem _ hp, e⟩
theorem namesP_len : ∀ (ones : List One1) (a : List (List UInt8)), (ones.foldl (fun a x => if x.at_.name ∈ a then a else a ++ [x.at_.name]) a).length ≤ a.length + ones.length
  | [], a => Nat.le_refl _
  | o :: r, a => by
    rw [List.foldl_cons]
    have := namesP_len r (if o.at_.name ∈ a then a else a ++ [o.at_.name])
    have h2 : (if o.at_.name ∈ a then a else a ++ [o.at_.name]).length ≤ a.length + 1 := by
      split
      · omega
      · rw [List.length_append]; simp
    simp only [List.length_cons]
    omega
theorem onesP_len (rs : List (List Tok)) : (onesP rs).length ≤ rs.length := by
  unfold onesP
  refine Nat.le_trans (List.length_filterMap_le _ _) ?_
  rw [List.length_map]
  exact Nat.le_refl _
theorem onesP_ok {rs : List (List Tok)} (h : ∀ r ∈ rs, (joinP r).length ≤ 10000000) : onesOk (onesP rs) := by
  intro o ho
  unfold onesP at ho
  obtain ⟨q, hq, he⟩ := List.mem_filterMap.1 ho
  obtain ⟨r, hr, rfl⟩ := List.mem_map.1 hq
  split at he
  · cases he
  · injection he with he
    subst he
    have h1 := pairP_len r
    have h2 := h r hr
    have h3 := whereP_len (pairP r).1
    exact ⟨by show (pairP r).2.length ≤ _; omega, by show (whereP (pairP r).1).name.length ≤ _; omega⟩
/-- A slice of rows, read. -/
structure RowsIn (w : World) (B : Nat) (A : Option Addr) (n : Nat) (rs : List (List Tok)) : Prop where
  len : rs.length = n
  ex : ∃ xs, xs.length = n ∧ Run w B A xs ∧ ∀ i (hi : i < rs.length), ∃ A' c', xs[i]? = some (.slice A' rs[i].length c') ∧ rs[i].length ≤ c' ∧ c' ≤ maxLen ∧ Toks w B A' rs[i].length rs[i]
theorem RowsIn.below {w w' : World} {B n : Nat} {A : Option Addr} {rs : List (List Tok)} (h : RowsIn w B A n rs) (hb : Below B w w') : RowsIn w' B A n rs := by
  obtain ⟨h1, xs, h2, h3, h4⟩ := h
  refine ⟨h1, xs, h2, h3.below hb, fun i hi => ?_⟩
  obtain ⟨A', c', e1, e2, e3, e4⟩ := h4 i hi
  exact ⟨A', c', e1, e2, e3, e4.below hb⟩
theorem RowsIn.more {w : World} {B B' n : Nat} {A : Option Addr} {rs : List (List Tok)} (h : RowsIn w B A n rs) (hB : B ≤ B') : RowsIn w B' A n rs := by
  obtain ⟨h1, xs, h2, h3, h4⟩ := h
  refine ⟨h1, xs, h2, h3.more hB, fun i hi => ?_⟩
  obtain ⟨A', c', e1, e2, e3, e4⟩ := h4 i hi
  exact ⟨A', c', e1, e2, e3, e4.more hB⟩
theorem RowsIn.cut {w : World} {B n cap : Nat} {A : Option Addr} {rs : List (List Tok)} (h : RowsIn w B A n rs) {k : Nat} (hc : n ≤ cap) : RowsIn w B (if cap = k then A else A.map (·.add k)) (n - k) (rs.drop k) := by
  obtain ⟨h1, xs, h2, h3, h4⟩ := h
  refine ⟨by rw [List.length_drop, h1], xs.drop k, by rw [List.length_drop, h2], h3.cut (by omega), fun i hi => ?_⟩
  rw [List.length_drop] at hi
  obtain ⟨A', c', e1, e2, e3, e4⟩ := h4 (k + i) (by omega)
  refine ⟨A', c', ?_, ?_, e3, ?_⟩
  · rw [List.getElem?_drop, e1, List.getElem_drop]
  · rw [List.getElem_drop]; exact e2
  · rw [List.getElem_drop]; exact e4
theorem RowsIn.at_ {w : World} {B n : Nat} {A : Option Addr} {rs : List (List Tok)} (h : RowsIn w B A n rs) {k : Nat} (hk : k < rs.length) : ∃ ad A' c', A = some ad ∧ ad.block < B ∧ w.cell? (ad.add k) = some (.slice A' rs[k].length c') ∧ rs[k].length ≤ c' ∧ c' ≤ maxLen ∧ Toks w B A' rs[k].length rs[k] := by
  obtain ⟨h1, xs, h2, h3, h4⟩ := h
  obtain ⟨A', c', e1, e2, e3, e4⟩ := h4 k hk
  obtain ⟨ad, u, a1, a2, a3, a4⟩ := h3.at_ (k := k) (by omega)
  rw [a3] at e1
  injection e1 with e1
  subst e1
  exact ⟨ad, A', c', a1, a2, a4, e2, e3, e4⟩
theorem RowsAt.rows {w : World} {B C : Nat} {v : Value} {rs : List (List Tok)} {xs : List Value} (h : RowsAt w B C v rs xs) : ∃ A c, v = .slice A rs.length c ∧ rs.length ≤ c ∧ c ≤ maxLen ∧ RowsIn w w.heap.size A rs.length rs := by
  have hown := h.own
  have key : ∀ A, Run w w.heap.size A xs → RowsIn w w.heap.size A rs.length rs := fun A hr => by
    refine ⟨rfl, xs, h.len, hr, fun i hi => ?_⟩
    obtain ⟨A', c', e1, e2, e3, e4⟩ := (h.each i hi).reads
    refine ⟨A', c', ?_, e2, e3, e4⟩
    rw [← e1, List.getD_eq_getElem?_getD, List.getElem?_eq_getElem (by rw [h.len]; exact hi)]
    rfl
  rcases hown.2 with ⟨rfl, hn⟩ | ⟨g, cap, cur, rfl, hb, hg, h1, h2, h3, h4⟩
  · have : rs = [] := List.eq_nil_of_length_eq_zero hn
    have hx : xs = [] := List.eq_nil_of_length_eq_zero (by rw [h.len, this]; rfl)
    rw [this]
    rw [this, hx] at key
    exact ⟨none, 0, rfl, Nat.le_refl _, by simp, key none (.inl rfl)⟩
  · exact ⟨_, cap, rfl, h1, h2, key _ (Run.of_own hown)⟩
/-- The state of list's first loop: the maps, each at its own count of ones, and the names. -/
structure LSt (w : World) (oa ob oc : List One1) (c : Nat) (v : Value) (ns : List (List UInt8)) (W : World) : Prop where
  par : MapL spotK W w.heap.size (parF oa) c
  fir : MapL spotK W (w.heap.size + 1) (firF ob) c
  seen : MapL strK W (w.heap.size + 2) (seenF oc) c
  own : OwnStrs W (w.heap.size + 3) v ns
  bel : Below w.heap.size w W
  size : w.heap.size + 3 ≤ W.heap.size
section
variable {w W W' : World} {oa ob oc : List One1} {c : Nat} {v : Value} {ns : List (List UInt8)} {o : One1}
theorem LSt.below (h : LSt w oa ob oc c v ns W) (hb : Below W.heap.size W W') : LSt w oa ob oc c v ns W' :=
  ⟨h.par.below hb, h.fir.below hb, h.seen.below hb, h.own.below hb, h.bel.trans (hb.mono h.bel.size), Nat.le_trans h.size hb.size⟩
theorem LSt.grown (h : LSt w oa ob oc c v ns W) {b : Nat} (hg : W.grownBy W' (some b)) (h0 : w.heap.size ≤ b) (h3 : b < w.heap.size + 3) :
    OwnStrs W' (w.heap.size + 3) v ns ∧ Below w.heap.size w W' ∧ w.heap.size + 3 ≤ W'.heap.size := by
  refine ⟨h.own.block fun q e => hg.block q (h.own.lt q e).2 fun e2 => ?_, h.bel.grown hg h.bel.size fun q e => ?_, Nat.le_trans h.size hg.size⟩
  · have h1 := (h.own.lt q e).1
    have h2 : q = b := by simpa using e2
    omega
  · have : b = q := Option.some.inj e
    omega
theorem LSt.parKeep (h : LSt w oa ob oc c v ns W) {u : Value} (hv : parF oa o.at_ = some u) : LSt w (oa ++ [o]) ob oc c v ns W :=
  ⟨par_keep h.par hv, h.fir, h.seen, h.own, h.bel, h.size⟩
theorem LSt.parPut (h : LSt w oa ob oc c v ns W) (hv : parF oa o.at_ = none) (hc : c < maxLen) (hf : spotK.fits o.at_) :
    ∃ W', (Instr.mapUpdate 87 (.map (some w.heap.size)) (spotV o.at_) (.string (ba o.value))).run Tryz.prog W = .ok () W' ∧ LSt w (oa ++ [o]) ob oc (c + 1) v ns W' ∧ W.grownBy W' (some w.heap.size) := by
  obtain ⟨W', h1, h2, h3⟩ := h.par.put Tryz.underlying87 hc hf (.string (ba o.value))
  obtain ⟨k1, k2, k3⟩ := h.grown h3 (Nat.le_refl _) (by omega)
  refine ⟨W', h1, ⟨par_put h2 hv, (h.fir.keep (h3.block _ h.fir.lt (by simp))).mono (Nat.le_succ _), (h.seen.keep (h3.block _ h.seen.lt (by simp))).mono (Nat.le_succ _), k1, k2, k3⟩, h3⟩
theorem LSt.firSkip (h : LSt w oa ob oc c v ns W) (hs : ¬ 0 ≤ o.at_.section_) : LSt w oa (ob ++ [o]) oc c v ns W :=
  ⟨h.par, fir_skip h.fir hs, h.seen, h.own, h.bel, h.size⟩
theorem LSt.firKeep (h : LSt w oa ob oc c v ns W) {u : Value} (hv : firF ob ⟨o.at_.name, o.at_.section_, false⟩ = some u) : LSt w oa (ob ++ [o]) oc c v ns W :=
  ⟨h.par, fir_keep h.fir hv, h.seen, h.own, h.bel, h.size⟩
theorem LSt.firPut (h : LSt w oa ob oc c v ns W) (hv : firF ob ⟨o.at_.name, o.at_.section_, false⟩ = none) (hs : 0 ≤ o.at_.section_) (hc : c < maxLen) (hf : spotK.fits ⟨o.at_.name, o.at_.section_, false⟩) :
    ∃ W', (Instr.mapUpdate 88 (.map (some (w.heap.size + 1))) (spotV ⟨o.at_.name, o.at_.section_, false⟩) (.bool o.at_.wide)).run Tryz.prog W = .ok () W' ∧ LSt w oa (ob ++ [o]) oc (c + 1) v ns W' ∧ W.grownBy W' (some (w.heap.size + 1)) := by
  obtain ⟨W', h1, h2, h3⟩ := h.fir.put Tryz.underlying88 hc hf (.bool o.at_.wide)
  obtain ⟨k1, k2, k3⟩ := h.grown h3 (by omega) (by omega)
  refine ⟨W', h1, ⟨(h.par.keep (h3.block _ h.par.lt (by simp))).mono (Nat.le_succ _), fir_put h2 hv hs, (h.seen.keep (h3.block _ h.seen.lt (by simp))).mono (Nat.le_succ _), k1, k2, k3⟩, h3⟩
theorem LSt.seenKeep (h : LSt w oa ob oc c v ns W) (hv : o.at_.name ∈ namesP oc) : LSt w oa ob (oc ++ [o]) c v ns W :=
  ⟨h.par, h.fir, seen_keep h.seen hv, h.own, h.bel, h.size⟩
theorem LSt.seenPut (h : LSt w oa ob oc c v ns W) (hv : ¬ o.at_.name ∈ namesP oc) (hc : c < maxLen) (hf : strK.fits o.at_.name) :
    ∃ W', (Instr.mapUpdate 90 (.map (some (w.heap.size + 2))) (.string (ba o.at_.name)) (.bool true)).run Tryz.prog W = .ok () W' ∧ LSt w oa ob (oc ++ [o]) (c + 1) v ns W' ∧ W.grownBy W' (some (w.heap.size + 2)) := by
  obtain ⟨W', h1, h2, h3⟩ := h.seen.put Tryz.underlying90 hc hf (.bool true)
  obtain ⟨k1, k2, k3⟩ := h.grown h3 (by omega) (by omega)
  refine ⟨W', h1, ⟨(h.par.keep (h3.block _ h.par.lt (by simp))).mono (Nat.le_succ _), (h.fir.keep (h3.block _ h.fir.lt (by simp))).mono (Nat.le_succ _), seen_put h2 hv, k1, k2, k3⟩, h3⟩
theorem LSt.push (h : LSt w oa ob oc c v ns W) {v' : Value} {s : List UInt8} (h1 : OwnStrs W' (w.heap.size + 3) v' (ns ++ [s])) (hg : W.grownBy W' v.ownBlock) : LSt w oa ob oc c v' (ns ++ [s]) W' := by
  have hk : ∀ b, b < w.heap.size + 3 → W'.heap[b]? = W.heap[b]? := fun b hb => hg.block b (by have := h.size; omega) fun e => by
    have := (h.own.lt b e.symm).1
    omega
  exact ⟨h.par.keep (hk _ (by omega)), h.fir.keep (hk _ (by omega)), h.seen.keep (hk _ (by omega)), h1, h.bel.grown hg h.bel.size fun q e => by have := (h.own.lt q e).1; omega, Nat.le_trans h.size hg.size⟩
end
def ListPost (w : World) (ps : List (List UInt8 × List UInt8)) (e : Ending) (w' : World) : Prop := ∃ v, e = .returned v ∧ OwnPars w' w.heap.size v ps ∧ Below w.heap.size w w'
theorem paramsP_take {f : List UInt8 → Option (List UInt8 × List UInt8)} {ns : List (List UInt8)} {k : Nat} (hk : k < ns.length) : (ns.take (k + 1)).filterMap f = (ns.take k).filterMap f ++ (f ns[k]).toList := by
  rw [List.take_succ_eq_append_getElem hk, List.filterMap_append]
  congr 1
end Go.Proofs.YtnpgnohlcphfnaaGreatDoor
end
