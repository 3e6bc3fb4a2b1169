/- Layer 12: rows of tokens in memory; the contract of rows. Layer 9: the contracts of end, goes, bare, Right, Unfold, small. -/
import Derived.Shelf.Strings.SlTrimAscii
import Derived.Test.YthidbmeaccpjdaaGreatDoorM14
import Derived.Test.YthidbmeaccpjdaaGreatDoorM10
import Derived.Test.YthidbmeaccpjdaaGreatDoorM02
import Derived.Test.YthidbmeaccpjdaaGreatDoorM05
import Derived.Test.YthidbmeaccpjdaaGreatDoorM06
namespace Go.Proofs.YthidbmeaccpjdaaGreatDoor
open Go.RowKit
set_option linter.unusedVariables false
set_option maxHeartbeats 4000000
theorem rows_snoc : ∀ (l : List Tok) (t : Tok), rowsP (l ++ [t]) = if semiB t = true then rowsP l ++ [[]] else (rowsP l).dropLast ++ [(rowsP l).getLast (rowsP_ne l) ++ [t]]
 | [], t => by
  show rowsP [t] = _
  unfold rowsP
  by_cases h : semiB t = true
  ·rw [if_pos h, if_pos h]; rfl
  ·rw [if_neg h, if_neg h]; rfl
 | a :: r, t => by
  have ih := rows_snoc r t
  have hne := rowsP_ne r
  by_cases ha : semiB a = true
  ·have e1 : rowsP (a :: r) = [] :: rowsP r := by
    conv => lhs; unfold rowsP
    rw [if_pos ha]
   have e2 : rowsP (a :: (r ++ [t])) = [] :: rowsP (r ++ [t]) := by
    conv => lhs; unfold rowsP
    rw [if_pos ha]
   show rowsP (a :: (r ++ [t])) = _
   rw [e2, ih]
   by_cases h : semiB t = true
   ·rw [if_pos h, if_pos h, e1]; rfl
   ·rw [if_neg h, if_neg h]
    simp only [e1]
    rw [List.dropLast_cons_of_ne_nil hne, List.getLast_cons hne]
    rfl
  ·obtain ⟨x, y, hxy⟩ : ∃ x y, rowsP r = x :: y := by
    cases h : rowsP r with
    | nil => exact absurd h hne
    | cons x y => exact ⟨x, y, rfl⟩
   have e1 : rowsP (a :: r) = (a :: x) :: y := by
    conv => lhs; unfold rowsP
    rw [if_neg ha, hxy]
   show rowsP (a :: (r ++ [t])) = _
   have e2 : ∀ p q, rowsP (r ++ [t]) = p :: q → rowsP (a :: (r ++ [t])) = (a :: p) :: q := fun p q h => by
    conv => lhs; unfold rowsP
    rw [if_neg ha, h]
   by_cases h : semiB t = true
   ·rw [if_pos h] at ih ⊢
    rw [e2 x (y ++ [[]]) (by rw [ih, hxy]; rfl), e1]
    rfl
   ·rw [if_neg h] at ih ⊢
    simp only [e1]
    cases y with
    | nil =>
     rw [e2 (x ++ [t]) [] (by rw [ih]; simp [hxy])]
     simp
    | cons y1 y2 =>
     rw [e2 x ((y1 :: y2).dropLast ++ [(y1 :: y2).getLast (by simp) ++ [t]]) (by rw [ih]; simp [hxy])]
     simp
structure RowsAt (w : World) (B C : Nat) (v : Value) (rs : List (List Tok)) (xs : List Value) : Prop where
 own : w.ownsRow B 90 1 v rs.length xs
 len : xs.length = rs.length
 each : ∀ i (hi : i < rs.length), OwnToks w C (xs.getD i .nilFunc) rs[i]
 dist : ∀ i j b, i < j → j < rs.length → (xs.getD i .nilFunc).ownBlock = some b → (xs.getD j .nilFunc).ownBlock ≠ some b
theorem row_info : (Tryz.prog.info? 90).map (fun i => (i.zero, i.size, i.bytes)) = some (some (.slice none 0 0), 1, 24) := by kernel_rfl
theorem RowsAt.below {w w' : World} {B C : Nat} {v : Value} {rs : List (List Tok)} {xs : List Value} (h : RowsAt w B C v rs xs) (hb : Below w.heap.size w w') : RowsAt w' B C v rs xs :=
 ⟨ownsRow_block h.own fun b e => hb.block b (h.own.lt b e).2, h.len, fun i hi => (h.each i hi).below hb, h.dist⟩
theorem own_ne {w : World} {B B' : Nat} {e e' : TypeId} {sz sz' n n' : Nat} {v v' : Value} {xs xs' : List Value} (h : w.ownsRow B e sz v n xs) (h' : w.ownsRow B' e' sz' v' n' xs') (he : e ≠ e') {b : Nat} (hb : v.ownBlock = some b) : v'.ownBlock ≠ some b := by
 intro hb'
 rcases h.2 with ⟨rfl, _⟩ | ⟨g, cap, cur, rfl, _, hg, _⟩
 ·cases hb
 ·rcases h'.2 with ⟨rfl, _⟩ | ⟨g', cap', cur', rfl, _, hg', _⟩
  ·cases hb'
  ·have e1 : g = b := Option.some.inj hb
   have e2 : g' = b := Option.some.inj hb'
   subst e1; subst e2
   rw [hg] at hg'
   injection Option.some.inj hg' with _ h3
   exact he h3
theorem getD_snoc_lt {xs : List Value} {x : Value} {i : Nat} (h : i < xs.length) : (xs ++ [x]).getD i .nilFunc = xs.getD i .nilFunc := by
 rw [List.getD_eq_getElem?_getD, List.getD_eq_getElem?_getD, List.getElem?_append_left h]
theorem getD_snoc_eq {xs : List Value} {x : Value} : (xs ++ [x]).getD xs.length .nilFunc = x := by
 rw [List.getD_eq_getElem?_getD, List.getElem?_append_right (Nat.le_refl _), Nat.sub_self]
 rfl
theorem RowsAt.snocNil {w w' : World} {B C : Nat} {v v' : Value} {rs : List (List Tok)} {xs : List Value} (h : RowsAt w B C v rs xs) (hg : w.grownBy w' v.ownBlock) (hown : w'.ownsRow B 90 1 v' (rs.length + 1) (xs ++ [.slice none 0 0])) :
  RowsAt w' B C v' (rs ++ [[]]) (xs ++ [.slice none 0 0]) := by
 refine ⟨by rw [List.length_append]; exact hown, by rw [List.length_append, List.length_append, h.len]; rfl, fun i hi => ?_, fun i j b hij hj hb => ?_⟩
 ·rw [List.length_append] at hi
  by_cases hlt : i < rs.length
  ·rw [getD_snoc_lt (by rw [h.len]; exact hlt), List.getElem_append_left hlt]
   refine (h.each i hlt).block fun b hb => hg.block b ((h.each i hlt).row.lt b hb).2 fun e => ?_
   exact own_ne (h.each i hlt).row h.own (by decide) hb e.symm
  ·have : i = xs.length := by rw [h.len]; simp at hi; omega
   subst this
   rw [getD_snoc_eq]
   have e : (rs ++ [[]])[xs.length]'(by simp [h.len]) = ([] : List Tok) := by
    rw [List.getElem_append_right (by rw [h.len]; exact Nat.le_refl _)]
    simp
   rw [e]
   exact OwnToks.nil_ _ _
 ·rw [List.length_append] at hj
  by_cases hlt : j < rs.length
  ·rw [getD_snoc_lt (by rw [h.len]; exact hlt)]
   rw [getD_snoc_lt (by rw [h.len]; omega)] at hb
   exact h.dist i j b hij hlt hb
  ·have : j = xs.length := by rw [h.len]; simp at hj; omega
   subst this
   rw [getD_snoc_eq]
   simp [Value.ownBlock]
theorem RowsAt.setLast {w w2 : World} {B C g m c : Nat} {rs : List (List Tok)} {xs : List Value} {r r' : List Tok} {v' : Value} (h : RowsAt w B C (.slice (some ⟨g, 0, none⟩) m c) (rs ++ [r]) xs)
  (hg : w.grownBy w2 (xs.getD rs.length .nilFunc).ownBlock) (hown : OwnToks w2 C v' r') (hnew : v'.ownBlock = (xs.getD rs.length .nilFunc).ownBlock ∨ ∃ k, v'.ownBlock = some k ∧ w.heap.size ≤ k) :
  RowsAt (w2.setCell ⟨g, rs.length, none⟩ v') B C (.slice (some ⟨g, 0, none⟩) m c) (rs ++ [r']) (xs.set rs.length v') := by
 have hxl : xs.length = rs.length + 1 := by rw [h.len, List.length_append]; rfl
 have hm : m = rs.length + 1 := by
  rcases h.own.2 with ⟨e, _⟩ | ⟨g', cap, cur, e, _⟩
  ·cases e
  ·injection e with _ e2 _
   rw [e2, List.length_append]; rfl
 have hgl := (h.own.lt g rfl)
 have hlast := h.each rs.length (by simp)
 have hgk : ∀ b, (xs.getD rs.length .nilFunc).ownBlock = some b → b ≠ g := fun b hb e => by
  subst e
  exact own_ne hlast.row h.own (by decide) hb rfl
 have ho2 : w2.ownsRow B 90 1 (.slice (some ⟨g, 0, none⟩) m c) (rs ++ [r]).length xs := h.own.kept hg (.inr fun e => by
  have := e.symm
  exact hgk g this rfl)
 have hv'g : ∀ b, v'.ownBlock = some b → b ≠ g := fun b hb => by
  rcases hnew with hn | ⟨k, hk, hk2⟩
  ·exact hgk b (by rw [← hn]; exact hb)
  ·rw [hk] at hb
   have : k = b := Option.some.inj hb
   omega
 have hlen : (rs ++ [r]).length = (rs ++ [r']).length := by rw [List.length_append, List.length_append]; rfl
 refine ⟨?_, by rw [List.length_set, h.len, hlen], fun i hi => ?_, fun i j b hij hj hb => ?_⟩
 ·have e : m = (rs ++ [r]).length := by rw [hm, List.length_append]; rfl
  subst e
  rw [← hlen]
  exact (ho2.stored rs.length v').1
 ·rw [List.length_append] at hi
  by_cases hlt : i < rs.length
  ·have e1 : (xs.set rs.length v').getD i .nilFunc = xs.getD i .nilFunc := by
    rw [List.getD_eq_getElem?_getD, List.getD_eq_getElem?_getD, List.getElem?_set_ne (by omega)]
   rw [e1, List.getElem_append_left hlt]
   have h1 := h.each i (by rw [List.length_append]; omega)
   rw [List.getElem_append_left hlt] at h1
   refine h1.block fun b hb => ?_
   have hbg : b ≠ g := fun e => by subst e; exact own_ne h1.row h.own (by decide) hb rfl
   rw [heap_setCell_other _ _ _ _ hbg]
   refine hg.block b (h1.row.lt b hb).2 fun e => ?_
   exact h.dist i rs.length b hlt (by simp) hb e.symm
  ·have : i = rs.length := by simp at hi; omega
   subst this
   have e1 : (xs.set rs.length v').getD rs.length .nilFunc = v' := by
    rw [List.getD_eq_getElem?_getD, List.getElem?_set_self (by omega)]
    rfl
   have e2 : (rs ++ [r'])[rs.length]'(by simp) = r' := by
    rw [List.getElem_append_right (Nat.le_refl _)]
    simp
   rw [e1, e2]
   exact hown.block fun b hb => heap_setCell_other _ _ _ _ (hv'g b hb)
 ·rw [List.length_append] at hj
  have e1 : (xs.set rs.length v').getD i .nilFunc = xs.getD i .nilFunc := by
   have : i < rs.length := by simp at hj; omega
   rw [List.getD_eq_getElem?_getD, List.getD_eq_getElem?_getD, List.getElem?_set_ne (by omega)]
  rw [e1] at hb
  have hil : i < rs.length := by simp at hj; omega
  by_cases hlt : j < rs.length
  ·have e2 : (xs.set rs.length v').getD j .nilFunc = xs.getD j .nilFunc := by
    rw [List.getD_eq_getElem?_getD, List.getD_eq_getElem?_getD, List.getElem?_set_ne (by omega)]
   rw [e2]
   exact h.dist i j b hij (by rw [List.length_append]; omega) hb
  ·have : j = rs.length := by simp at hj; omega
   subst this
   have e2 : (xs.set rs.length v').getD rs.length .nilFunc = v' := by
    rw [List.getD_eq_getElem?_getD, List.getElem?_set_self (by omega)]
    rfl
   rw [e2]
   rcases hnew with hn | ⟨k, hk, hk2⟩
   ·rw [hn]
    exact h.dist i rs.length b hij (by simp) hb
   ·rw [hk]
    intro e
    have e3 : k = b := Option.some.inj e
    have h1 := h.each i (by rw [List.length_append]; omega)
    have := (h1.row.lt b hb).2
    omega
set_option maxRecDepth 100000 in
theorem wp_pushTokN {o : Oper} {a : Act} {K : Act → World → Prop} {W : World} {Q : Exit → Act → World → Prop} {B : Nat} {v : Value} {ts : List (Tok)} {x0 : Int} {x1 : List UInt8} (hT : OwnToks W B v ts) (hB : B ≤ W.heap.size) (hf : TokOk (⟨x0, x1⟩ : Tok))
  (hlen : ts.length ≤ 1000000000) (s y : Operand) (c : Nat)
  (ho : o.op = .call { callee := .builtin .append, args := #[s, y], argTypes := #[90, 90] }) (hs : a.eval s = v) (hx : a.eval y = .slice (some ⟨W.heap.size, 0, none⟩) 1 c)
  (h : ∀ v' w', OwnToks w' B v' (ts ++ [(⟨x0, x1⟩ : Tok)]) → W.grownBy w' v.ownBlock → (v'.ownBlock = v.ownBlock ∨ ∃ k, v'.ownBlock = some k ∧ W.heap.size ≤ k) → K (a.put o.dst v') w') : o.wp Tryz.prog a (W.alloc (.cells #[.int .i64 x0, .string (ba x1)] 94)) K Q := by
 obtain ⟨i0, hi, hz0, hz1, hz2⟩ := info_parts tok_info
 obtain ⟨v', w', hrun, h1, h2, _, h4⟩ := run_append_own_at (P := Tryz.prog) (W.alloc (.cells #[.int .i64 x0, .string (ba x1)] 94)) B 90 o.type 94 i0 _ 2 24 Tryz.underlying90 hi hz0 hz1 hz2 rfl (by omega) v ts.length (ts.flatMap tokCells) (World.ownsRow.alloc hT.row _) ⟨W.heap.size, 0, none⟩ 1 c (tokCells (⟨x0, x1⟩ : Tok)) rfl (World.news_of_block (MapKept.heap_alloc W _).1) (fun u hu => tok_one [(⟨x0, x1⟩ : Tok)] u (by simpa using hu)) (by simp only [maxLen]; omega) (by omega) (by simp; omega)
 have h5 := World.grownBy_alloc W (.cells #[.int .i64 x0, .string (ba x1)] 94) v.ownBlock
 unfold Oper.wp execOp
 simp only [ho, resolve, invoke, builtin, Sem.run_bind, Sem.run_pure, Result.andThen_ok, List.map_toArray, List.map_cons, List.map_nil, hs, hx, hrun]
 refine h v' w' ⟨by simpa using h1, fun t ht => ?_⟩ ⟨h2.os.trans h5.os, h2.tape.trans h5.tape, h2.output.trans h5.output, Nat.le_trans h5.size h2.size, fun k hk hne => (h2.block k (by simp; omega) hne).trans (h5.block k hk hne)⟩ ?_
 ·rcases List.mem_append.1 ht with ht | ht
  ·exact hT.each t ht
  ·rw [List.mem_singleton] at ht; subst ht; exact hf
 ·rcases h4 with h4 | h4
  ·exact .inl h4
  ·exact .inr ⟨_, h4, by simp⟩
theorem step_pushTokN {ops : Array Oper} {o : Oper} {a : Act} {W : World} {K : Act → World → Prop} {Q : Exit → Act → World → Prop} {E : Prop} {B : Nat} {v : Value} {ts : List (Tok)} {x0 : Int} {x1 : List UInt8} (hT : OwnToks W B v ts) (hB : B ≤ W.heap.size) (hf : TokOk (⟨x0, x1⟩ : Tok))
  (hlen : ts.length ≤ 1000000000) (hgd : o.guard = none) (s y : Operand) (c : Nat)
  (ho : o.op = .call { callee := .builtin .append, args := #[s, y], argTypes := #[90, 90] }) (hs : a.eval s = v) (hx : a.eval y = .slice (some ⟨W.heap.size, 0, none⟩) 1 c)
  (h : ∀ v' w', OwnToks w' B v' (ts ++ [(⟨x0, x1⟩ : Tok)]) → W.grownBy w' v.ownBlock → (v'.ownBlock = v.ownBlock ∨ ∃ k, v'.ownBlock = some k ∧ W.heap.size ≤ k) → K (a.put o.dst v') w') :
  if Region.wanted o (yielded ops a.tmps) = true then Oper.wp Tryz.prog o a (W.alloc (.cells #[.int .i64 x0, .string (ba x1)] 94)) K Q else E := by
 have hw : Region.wanted o (yielded ops a.tmps) = true := by simp [Region.wanted, hgd]
 rw [if_pos hw]
 exact wp_pushTokN hT hB hf hlen s y c ho hs hx h
set_option maxRecDepth 100000 in
theorem wpList_pushNil {ops : Array Oper} {rest : List Oper} {o : Oper} {a : Act} {W : World} {Q : Exit → Act → World → Prop} {B C : Nat} {v : Value} {rs : List (List Tok)} {xs : List Value} (hT : RowsAt W B C v rs xs) (hB : B ≤ W.heap.size)
  (hlen : rs.length ≤ 1000000000) (hgd : o.guard = none) (s y : Operand) (c : Nat)
  (ho : o.op = .call { callee := .builtin .append, args := #[s, y], argTypes := #[167, 167] }) (hs : a.eval s = v) (hx : a.eval y = .slice (some ⟨W.heap.size, 0, none⟩) 1 c)
  (h : ∀ v' w', RowsAt w' B C v' (rs ++ [[]]) (xs ++ [.slice none 0 0]) → W.grownBy w' v.ownBlock → (v'.ownBlock = v.ownBlock ∨ ∃ k, v'.ownBlock = some k ∧ W.heap.size ≤ k) → wpList Tryz.prog ops Q rest (a.put o.dst v') w') :
  wpList Tryz.prog ops Q (o :: rest) a (W.alloc (.cells #[.slice none 0 0] 90)) := by
 refine wpList_plain hgd fun K hK => ?_
 obtain ⟨i0, hi, hz0, hz1, hz2⟩ := info_parts row_info
 obtain ⟨v', w', hrun, h1, h2, _, h4⟩ := run_append_own_at (P := Tryz.prog) (W.alloc (.cells #[.slice none 0 0] 90)) B 167 o.type 90 i0 _ 1 24 Tryz.underlying167 hi hz0 hz1 hz2 rfl (by omega) v rs.length xs (World.ownsRow.alloc hT.own _) ⟨W.heap.size, 0, none⟩ 1 c [.slice none 0 0] rfl (World.news_of_block (MapKept.heap_alloc W _).1) (fun u hu => by simp at hu; subst hu; rfl) (by simp only [maxLen]; omega) (by omega) (by simp; omega)
 have h5 := World.grownBy_alloc W (.cells #[.slice none 0 0] 90) v.ownBlock
 have h6 : W.grownBy w' v.ownBlock := ⟨h2.os.trans h5.os, h2.tape.trans h5.tape, h2.output.trans h5.output, Nat.le_trans h5.size h2.size, fun k hk hne => (h2.block k (by simp; omega) hne).trans (h5.block k hk hne)⟩
 unfold Oper.wp execOp
 simp only [ho, resolve, invoke, builtin, Sem.run_bind, Sem.run_pure, Result.andThen_ok, List.map_toArray, List.map_cons, List.map_nil, hs, hx, hrun]
 refine hK _ _ (h v' w' (hT.snocNil h6 h1) h6 ?_)
 rcases h4 with h4 | h4
 ·exact .inl h4
 ·exact .inr ⟨_, h4, by simp⟩
def RowsPost (w : World) (rs : List (List Tok)) (e : Ending) (w' : World) : Prop := ∃ v xs, e = .returned v ∧ RowsAt w' w.heap.size w.heap.size v rs xs ∧ Below w.heap.size w w'
structure RwRel (w w2 : World) (ts : List Tok) (k : Nat) (v : Value) (wr : World) : Prop where
 ex : ∃ rs r xs, rowsP (ts.take k) = rs ++ [r] ∧ RowsAt wr w.heap.size w2.heap.size v (rs ++ [r]) xs
 bel : Below w.heap.size w wr
 vb : ∀ b, v.ownBlock = some b → b = w.heap.size ∨ w2.heap.size ≤ b
 keep : ∀ b, b < w2.heap.size → b ≠ w.heap.size → wr.heap[b]? = w2.heap[b]?
 size : w2.heap.size ≤ wr.heap.size
theorem OwnToks.less {w : World} {B B' : Nat} {v : Value} {ts : List Tok} (h : OwnToks w B v ts) (hB : B' ≤ B) : OwnToks w B' v ts := h.more hB
theorem RowsAt.less {w : World} {B C C' : Nat} {v : Value} {rs : List (List Tok)} {xs : List Value} (h : RowsAt w B C v rs xs) (hC : C' ≤ C) : RowsAt w B C' v rs xs :=
 ⟨h.own, h.len, fun i hi => (h.each i hi).more hC, h.dist⟩
theorem rows_take {ts : List Tok} {k : Nat} (hk : k < ts.length) {rs : List (List Tok)} {r : List Tok} (h : rowsP (ts.take k) = rs ++ [r]) :
  rowsP (ts.take (k + 1)) = if semiB ts[k] = true then (rs ++ [r]) ++ [[]] else rs ++ [r ++ [ts[k]]] := by
 rw [List.take_succ_eq_append_getElem hk, rows_snoc]
 simp only [h]
 simp
theorem rowsP_len : ∀ (ts : List Tok), (rowsP ts).length ≤ ts.length + 1
 | [] => by simp [rowsP]
 | t :: r => by
  have := rowsP_len r
  unfold rowsP
  split
  ·simp; omega
  ·split <;> simp_all <;> omega
theorem indexV (c : UInt8) (l : List UInt8) : Lib.indexByte l c = match cutP c l with
  | some q => (q.1.length : Int)
  | none => -1 := by
 cases h : cutP c l with
 | none =>
  have h1 := cutP_none.1 h
  rcases Int.lt_or_le (Lib.indexByte l c) 0 with h2 | h2
  ·have h3 := Lib.indexByte_ge l c
   show _ = -1
   omega
  ·obtain ⟨o, ho⟩ : ∃ o : Nat, Lib.indexByte l c = o := ⟨(Lib.indexByte l c).toNat, by omega⟩
   have h4 := (Lib.indexByte_some ho).1
   exact absurd (List.mem_of_getElem? h4) h1
 | some q =>
  obtain ⟨a, b⟩ := q
  have h1 := cutP_some h
  show _ = (a.length : Int)
  have h0 : l[a.length]? = some c := by rw [h1.1]; simp
  rcases Int.lt_or_le (Lib.indexByte l c) 0 with h2 | h2
  ·have h3 := Lib.indexByte_ge l c
   exact absurd h0 (Lib.indexByte_none (by omega) a.length)
  ·obtain ⟨o, ho⟩ : ∃ o : Nat, Lib.indexByte l c = o := ⟨(Lib.indexByte l c).toNat, by omega⟩
   have h4 := Lib.indexByte_some ho
   rw [ho]
   rcases Nat.lt_trichotomy o a.length with h5 | h5 | h5
   ·have h6 := h4.1
    rw [h1.1, List.getElem?_append_left h5] at h6
    exact absurd (List.mem_of_getElem? h6) h1.2
   ·rw [h5]
   ·exact absurd h0 (h4.2 _ h5)
theorem hend_any (l : List UInt8) (w : World) (hl : l.length ≤ 1000000000) :
  Calls Tryz.prog 147 #[.string (ba l)] w fun e w' => e = .returned (.int .i64 (endP l : Nat)) ∧ w' = w := by
 have HIX := Lib.hid (indexb_any 10 l w)
 rw [indexV] at HIX
 cases h : cutP 10 l with
 | none =>
  have HF := Lib.hid (show endP l = l.length by unfold endP; rw [h])
  have hz : ((ba l).size : Int) = (l.length : Nat) := by rw [ba_size]
  rw [h] at HIX
  have HIY := Lib.hid (show Calls Tryz.prog 128 #[.string (ba l), .int .u8 ((10 : UInt8).toNat : Int)] w (fun e w' => e = .returned (.int .i64 (-1)) ∧ w' = w) from HIX.out)
  clear h HIX
  go_enter Tryz.func147, Tryz.ntmps147
  go_wp2_with fail
  refine HIY.out.mono ?_
  rintro e w2 ⟨rfl, hw⟩
  have hw2 := hw.symm
  subst hw2
  clear hw
  go_wp2
  go_ret
  exact ⟨by rw [HF.out]; rfl, rfl⟩
 | some q =>
  have hq := (cutP_some (a := q.1) (b := q.2) h).1
  have hql : q.1.length ≤ 1000000000 := by rw [hq] at hl; simp at hl; omega
  have HF := Lib.hid (show endP l = q.1.length + 1 by unfold endP; rw [h])
  rw [h] at HIX
  have HIY := Lib.hid (show Calls Tryz.prog 128 #[.string (ba l), .int .u8 ((10 : UInt8).toNat : Int)] w (fun e w' => e = .returned (.int .i64 (q.1.length : Int)) ∧ w' = w) from HIX.out)
  obtain ⟨m, hm⟩ : ∃ m, q.1.length = m := ⟨_, rfl⟩
  rw [hm] at HIY HF hql
  have hm0 : (0 : Int) ≤ (m : Int) := by omega
  have hmi : (m : Int) ≤ 1000000000 := by omega
  clear h HIX hq hm
  go_enter Tryz.func147, Tryz.ntmps147
  go_wp2_with fail
  refine HIY.out.mono ?_
  rintro e w2 ⟨rfl, hw⟩
  have hw2 := hw.symm
  subst hw2
  clear hw
  go_wp2
  go_ret
  exact ⟨by rw [HF.out]; rfl, rfl⟩
theorem tab_index (c : UInt8) : decide (0 ≤ Lib.indexByte [32, 9] c) = tabB c := by
 rw [indexV]
 unfold tabB cutP cutP cutP
 by_cases h1 : c = 32
 ·subst h1; rfl
 ·by_cases h2 : c = 9
  ·subst h2; rfl
  ·rw [if_neg (fun h => h1 h.symm), if_neg (fun h => h2 h.symm), decide_eq_false h1, decide_eq_false h2]
   rfl
theorem hgoes_any (l : List UInt8) (w : World) : Calls Tryz.prog 69 #[.string (ba l)] w fun e w' => e = .returned (.bool (goesP l)) ∧ w' = w := by
 cases l with
 | nil =>
  have g1 : (ba ([] : List UInt8)).toList.isEmpty = true := by rw [ba_toList]; rfl
  go_enter Tryz.func69, Tryz.ntmps69
  go_wp2
  go_ret
  exact ⟨rfl, rfl⟩
 | cons c r =>
  have g1 : (ba (c :: r)).toList.isEmpty = false := by rw [ba_toList]; rfl
  have HIX := Lib.hid (show Calls Tryz.prog 128 #[.string ⟨#[32, 9]⟩, .int .u8 (c.toNat : Int)] w (fun e w' => e = .returned (.int .i64 (Lib.indexByte [32, 9] c)) ∧ w' = w) from indexb_any c [32, 9] w)
  have HV := Lib.hid (show goesP (c :: r) = decide (0 ≤ Lib.indexByte [32, 9] c) from (tab_index c).symm)
  obtain ⟨v, hv⟩ : ∃ v, Lib.indexByte [32, 9] c = v := ⟨_, rfl⟩
  obtain ⟨o, ho⟩ : ∃ b, goesP (c :: r) = b := ⟨_, rfl⟩
  rw [hv] at HIX HV
  rw [ho] at HV ⊢
  have hsz : 0 < (ba (c :: r)).size := by rw [ba_size]; simp
  obtain ⟨x, hx⟩ : ∃ x : Int, (c.toNat : Int) = x := ⟨_, rfl⟩
  have hgi : ∃ h : 0 < (ba (c :: r)).size, (((ba (c :: r))[0]'h).toNat : Int) = x := ⟨hsz, hx⟩
  rw [hx] at HIX
  obtain ⟨s, hs⟩ : ∃ s, ba (c :: r) = s := ⟨_, rfl⟩
  rw [hs] at g1 hgi ⊢
  clear hs hv ho hx hsz
  obtain ⟨hsz, hgj⟩ := hgi
  go_enter Tryz.func69, Tryz.ntmps69
  go_wp2_with fail
  refine HIX.out.mono ?_
  rintro e w2 ⟨rfl, hw⟩
  have hw2 := hw.symm
  subst hw2
  clear hw
  go_wp2
  go_ret
  exact ⟨by rw [HV.out]; rfl, rfl⟩
def trimC (c : UInt8) (l : List UInt8) : List UInt8 := if l.getLast? = some c then l.dropLast else l
theorem suffix_one (c : UInt8) (l : List UInt8) : Lib.hasSuffix l [c] = decide (l.getLast? = some c) := by
 unfold Lib.hasSuffix
 rw [Bool.eq_iff_iff, decide_eq_true_iff, List.isSuffixOf_iff_suffix]
 constructor
 ·rintro ⟨t, rfl⟩
  simp
 ·intro h
  obtain ⟨t, ht⟩ := List.getLast?_eq_some_iff.1 h
  exact ⟨t, ht.symm⟩
theorem trimC_eq (c : UInt8) (l : List UInt8) : Lib.trimSuffix l [c] = trimC c l := by
 unfold Lib.trimSuffix trimC
 rw [suffix_one]
 by_cases h : l.getLast? = some c
 ·rw [decide_eq_true h, if_pos rfl, if_pos h, List.dropLast_eq_take]
  rfl
 ·rw [decide_eq_false h, if_neg h]
  rfl
theorem cutsuf_any (c : UInt8) (l : List UInt8) (w : World) (hl : l.length ≤ 1000000000) :
  Calls Tryz.prog 194 #[.string (ba l), .string ⟨#[c]⟩] w fun e w' => e = .returned (.tuple #[.string (ba (trimC c l)), .bool (decide (l.getLast? = some c))]) ∧ w' = w := by
 refine (Tryz.strings_CutSuffix (ba l) ⟨#[c]⟩ w (by rw [ba_size]; omega)).mono ?_
 rintro e w' ⟨rfl, rfl⟩
 refine ⟨?_, rfl⟩
 have e1 : Lib.trimSuffix (ba l).data.toList (⟨#[c]⟩ : ByteArray).data.toList = trimC c l := by rw [ba_list]; exact trimC_eq c l
 have e2 : Lib.hasSuffix (ba l).data.toList (⟨#[c]⟩ : ByteArray).data.toList = decide (l.getLast? = some c) := by rw [ba_list]; exact suffix_one c l
 rw [e1, e2]
 rfl
theorem trimsuf_any (c : UInt8) (l : List UInt8) (w : World) (hl : l.length ≤ 1000000000) :
  Calls Tryz.prog 195 #[.string (ba l), .string ⟨#[c]⟩] w fun e w' => e = .returned (.string (ba (trimC c l))) ∧ w' = w := by
 refine (Tryz.strings_TrimSuffix (ba l) ⟨#[c]⟩ w (by rw [ba_size]; omega)).mono ?_
 rintro e w' ⟨rfl, rfl⟩
 refine ⟨?_, rfl⟩
 have e1 : Lib.trimSuffix (ba l).data.toList (⟨#[c]⟩ : ByteArray).data.toList = trimC c l := by rw [ba_list]; exact trimC_eq c l
 rw [e1]
 rfl
theorem hbare_any (l : List UInt8) (w : World) (hl : l.length ≤ 1000000000) :
  Calls Tryz.prog 148 #[.string (ba l)] w fun e w' => e = .returned (.string (ba (nudeP l))) ∧ w' = w := by
 have HC := Lib.hid (cutsuf_any 10 l w hl)
 by_cases h : l.getLast? = some 10
 ·have HF := Lib.hid (show nudeP l = trimC 13 (trimC 10 l) by unfold nudeP trimC; rw [if_pos h, if_pos h])
  have HT := Lib.hid (trimsuf_any 13 (trimC 10 l) w (by unfold trimC; rw [if_pos h, List.length_dropLast]; omega))
  rw [decide_eq_true h] at HC
  clear h
  go_enter Tryz.func148, Tryz.ntmps148
  go_wp2_with fail
  refine HC.out.mono ?_
  rintro e w2 ⟨rfl, hw⟩
  have hw2 := hw.symm
  subst hw2
  clear hw
  go_wp2_with fail
  refine HT.out.mono ?_
  rintro e w2 ⟨rfl, hw⟩
  have hw2 := hw.symm
  subst hw2
  clear hw
  go_wp2
  go_ret
  exact ⟨by rw [HF.out]; rfl, rfl⟩
 ·have HF := Lib.hid (show nudeP l = l by unfold nudeP; rw [if_neg h])
  rw [decide_eq_false h] at HC
  clear h
  go_enter Tryz.func148, Tryz.ntmps148
  go_wp2_with fail
  refine HC.out.mono ?_
  rintro e w2 ⟨rfl, hw⟩
  have hw2 := hw.symm
  subst hw2
  clear hw
  go_wp2
  go_ret
  exact ⟨by rw [HF.out]; rfl, rfl⟩
theorem nameB_int (c : UInt8) {x : Int} (h : (c.toNat : Int) = x) : nameB c = (!(decide (x ≤ 32) || decide (126 < x) || x == 58)) := by
 unfold nameB
 have e1 : (33 ≤ c ∧ c ≤ 126) ↔ (33 ≤ x ∧ x ≤ 126) := by
  rw [UInt8.le_iff_toNat_le, UInt8.le_iff_toNat_le]
  show (33 : Nat) ≤ _ ∧ _ ≤ (126 : Nat) ↔ _
  omega
 have e2 : c ≠ 58 ↔ x ≠ 58 := by
  rw [← h]
  constructor
  ·intro h2 h3
   exact h2 (UInt8.toNat_inj.1 (by show c.toNat = 58; omega))
  ·rintro h2 rfl
   exact h2 rfl
 rw [Bool.eq_iff_iff]
 simp only [e1, e2, Bool.and_eq_true, decide_eq_true_eq, Bool.not_eq_true', Bool.or_eq_false_iff, decide_eq_false_iff_not, beq_eq_false_iff_ne]
 omega
theorem nameOk_stop {l : List UInt8} {k : Nat} (hk : k < l.length) (h : nameB l[k] = false) : nameOk l = false := by
 unfold nameOk
 rw [all_stop hk h]
 rfl
set_option maxRecDepth 100000 in
theorem hright_any (l : List UInt8) (w : World) (hl : l.length ≤ 1000000000) :
  Calls Tryz.prog 65 #[.string (ba l)] w fun e w' => e = .returned (.bool (nameOk l)) ∧ w' = w := by
 have HEM := Lib.hid (show nameOk l = (l.all nameB && !(ba l).toList.isEmpty) by rw [ba_toList]; rfl)
 obtain ⟨be, hbe⟩ : ∃ b, (ba l).toList.isEmpty = b := ⟨_, rfl⟩
 rw [hbe] at HEM
 obtain ⟨n, hn⟩ : ∃ n, l.length = n := ⟨_, rfl⟩
 have HL := Lib.hid hn
 obtain ⟨s, hs⟩ : ∃ s, ba l = s := ⟨_, rfl⟩
 have HS := Lib.hid hs
 have HZ := Lib.hid (show s.size = n by rw [← hs, ba_size, hn])
 have hsz : (s.size : Int) = n := by rw [HZ.out]
 rw [hs]
 rw [hn] at hl
 clear hs hn
 rw [HS.out] at hbe
 go_enter Tryz.func65, Tryz.ntmps65
 go_wp2
 go_loop [3, 4, 7] (fun a b i => ∃ (k : Nat) (y z : Value), a = y ∧ b = z ∧ k ≤ n ∧ i = .int .i64 (k : Int) ∧ Hid ((l.take k).all nameB = true)) (fun _ _ i => n - (intOf i).toNat)
 case atStart => exact ⟨0, _, _, rfl, rfl, Nat.zero_le _, rfl, Lib.hid rfl⟩
 case round =>
  obtain ⟨k, y, z, rfl, rfl, hk, rfl, HR⟩ := hrel
  by_cases hlt : k < n
  ·have hk2 : (k : Int) < (n : Int) := by omega
   have hk0 : (0 : Int) ≤ (k : Int) := by omega
   have hks : k < s.size := by rw [HZ.out]; omega
   have hkl : k < l.length := by rw [HL.out]; omega
   have hget : s[k] = l[k] := by
    have h := HS.out
    subst h
    rfl
   have HST := Lib.hid (all_snoc (f := nameB) hkl HR.out)
   have HIT := Lib.hid (nameOk_stop hkl)
   obtain ⟨c, hc⟩ : ∃ c, l[k] = c := ⟨_, rfl⟩
   rw [hc] at hget HST HIT
   obtain ⟨x, hx⟩ : ∃ x : Int, (c.toNat : Int) = x := ⟨_, rfl⟩
   have hgi : ((s[k]).toNat : Int) = x := by rw [hget]; exact hx
   have HX := Lib.hid hx
   have hx0 : 0 ≤ x := by omega
   have hx1 : x ≤ 255 := by have := c.toNat_lt; omega
   clear hc hkl hget hx
   have HNB := Lib.hid (nameB_int c HX.out)
   by_cases e1 : x ≤ 32
   ·have g1 : decide (x ≤ 32) = true := decide_eq_true e1
    have HV := Lib.hid (HIT.out (by rw [HNB.out, g1]; rfl))
    clear e1
    go_wp2
    go_ret
    exact ⟨by rw [HV.out]; rfl, rfl⟩
   ·have g1 : decide (x ≤ 32) = false := decide_eq_false e1
    by_cases e2 : 126 < x
    ·have g2 : decide (126 < x) = true := decide_eq_true e2
     have HV := Lib.hid (HIT.out (by rw [HNB.out, g1, g2]; rfl))
     clear e1 e2
     go_wp2
     go_ret
     exact ⟨by rw [HV.out]; rfl, rfl⟩
    ·have g2 : decide (126 < x) = false := decide_eq_false e2
     by_cases e3 : x = 58
     ·have g3 : (x == 58) = true := by simpa using e3
      have HV := Lib.hid (HIT.out (by rw [HNB.out, g1, g2, g3]; rfl))
      clear e1 e2 e3
      go_wp2
      go_ret
      exact ⟨by rw [HV.out]; rfl, rfl⟩
     ·have g3 : (x == 58) = false := by simpa using e3
      have HV := Lib.hid (show (l.take (k + 1)).all nameB = true by rw [HST.out, HNB.out, g1, g2, g3]; rfl)
      clear e1 e2 e3
      go_wp2
      go_round
      case rel => exact ⟨k + 1, _, _, rfl, rfl, by omega, by go_num, HV⟩
      case measure => simp [intOf] <;> omega
  ·obtain rfl : k = n := by omega
   have HV := Lib.hid (show nameOk l = !be by
    have := HR.out
    rw [List.take_of_length_le (by rw [HL.out]; exact Nat.le_refl _)] at this
    rw [HEM.out, this]
    rfl)
   cases be
   all_goals
    go_wp2
    go_ret
    exact ⟨by rw [HV.out]; rfl, rfl⟩
theorem htrim_any (l : List UInt8) (w : World) (hl : l.length ≤ 1000000000) :
  Calls Tryz.prog 68 #[.string (ba l), .string ⟨#[32, 9]⟩] w (StrB w (Lib.trimS l blanksP)) := by
 refine (Any.strings_Trim_laid Tryz.lays160 (by kernel_rfl) (ba l) ⟨#[32, 9]⟩ w (by rw [ba_size]; omega) (by decide) (ascii_of_all (by decide))).mono ?_
 rintro e w' ⟨rfl, hb⟩
 refine ⟨?_, hb⟩
 rw [ba_list]
 rfl
theorem htrimR_any (l : List UInt8) (w : World) (hl : l.length ≤ 1000000000) :
  Calls Tryz.prog 85 #[.string (ba l), .string ⟨#[32, 9]⟩] w (StrB w (Lib.trimRightS l blanksP)) := by
 refine (Any.strings_TrimRight_laid Tryz.lays162 (by kernel_rfl) (ba l) ⟨#[32, 9]⟩ w (by rw [ba_size]; omega) (by decide) (ascii_of_all (by decide))).mono ?_
 rintro e w' ⟨rfl, hb⟩
 refine ⟨?_, hb⟩
 rw [ba_list]
 rfl
theorem repall_any (old l : List UInt8) (w : World) (h : old ≠ []) (hl : l.length ≤ 1000000000) (hT : Tabs w) :
  Calls Tryz.prog 44 #[.string (ba l), .string (ba old), .string ⟨#[]⟩] w (StrB w (repA old [] l)) := by
 obtain ⟨m, hm⟩ := hT.max
 refine (Tryz.strings_ReplaceAll (ba l) (ba old) ⟨#[]⟩ m w (by rw [ba_size]; omega) hm (by rw [ba_size]; cases old with | nil => exact absurd rfl h | cons c r => simp) (by rw [ba_size]; show l.length + _ * 0 ≤ _; omega)).mono ?_
 rintro e w' ⟨rfl, hb⟩
 refine ⟨?_, hb⟩
 rw [ba_list, ba_list]
 have e1 : Lib.replaceAll l old (⟨#[]⟩ : ByteArray).data.toList = repA old [] l := replaceAll_eq h l
 rw [e1]
 rfl
theorem hunfold_any (l : List UInt8) (w : World) (hl : l.length ≤ 1000000000) (hT : Tabs w) :
  Calls Tryz.prog 198 #[.string (ba l)] w (StrB w (unfoldP l)) := by
 have HR1 := Lib.hid (show Calls Tryz.prog 44 #[.string (ba l), .string ⟨#[13, 10]⟩, .string ⟨#[]⟩] w (StrB w (repA [13, 10] [] l)) from repall_any [13, 10] l w (by simp) hl hT)
 rw [crlf_eq _ l (Nat.le_refl _)] at HR1
 have hlen := crlfP_len _ l (Nat.le_refl _)
 have HR2 := Lib.hid (show ∀ W, Below w.heap.size w W → Calls Tryz.prog 44 #[.string (ba (crlfP l)), .string ⟨#[10]⟩, .string ⟨#[]⟩] W (StrB W (unfoldP l)) from fun W hW => by
  have h := repall_any [10] (crlfP l) W (by simp) (by omega) (hT.below hW)
  rw [lf_eq] at h
  exact h)
 clear hlen hT
 go_enter Tryz.func198, Tryz.ntmps198
 go_wp2_with fail
 refine HR1.out.mono ?_
 rintro e w1 ⟨rfl, hb1⟩
 have HB1 := Lib.hid hb1
 clear hb1
 go_wp2_with fail
 refine (HR2.out w1 HB1.out).mono ?_
 rintro e w2 ⟨rfl, hb2⟩
 have HB2 := Lib.hid (HB1.out.trans (hb2.mono HB1.out.size))
 clear hb2
 go_wp2
 go_ret
 exact ⟨rfl, HB2.out⟩
end Go.Proofs.YthidbmeaccpjdaaGreatDoor
