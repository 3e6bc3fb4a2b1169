/- Rows of pouch/api.Token in memory: read, owned, grown by one or by a row (printed by gen_row.py). Layer 10: the contract of front (printed by gen_tokd.py). Layer 10: the states of Scan's and Bare's loops. Layer 10: the contract of Scan. Layer 10: the contract of Bare. strings.Builder, written and read: contracts over a builder of the call's own (copyCheck's panic is out of the model's reach, so the shelf does not lay the writers). Layer 10: the contract of Join. Layer 10, plain: the meaning of a quoted token, byte by byte with a flag. -/
import Derived.Handy
import Derived.Test.YthidbmeaccpjdaaGreatDoorShelfP
import Derived.Shelf.Strings.BuilderK
import Derived.Shelf.Strings.BuilderRune
import Derived.Test.YthidbmeaccpjdaaGreatDoorM01
import Derived.Test.YthidbmeaccpjdaaGreatDoorM02
section
namespace Go.Proofs.YthidbmeaccpjdaaGreatDoor
open Go.RowKit
set_option linter.unusedVariables false
theorem tok_info : (Tryz.prog.info? 94).map (fun i => (i.zero, i.size, i.bytes)) = some (some (.agg #[.int .i64 0, .string ByteArray.empty]), 2, 24) := by kernel_rfl
def tokCells (t : Tok) : List Value := [.int .i64 (t.kind), .string (ba (t.text))]
def TokOk (t : Tok) : Prop := (-9223372036854775808 ≤ t.kind ∧ t.kind ≤ 9223372036854775807)
def Toks (w : World) (B : Nat) (A : Option Addr) (n : Nat) (ts : List (Tok)) : Prop :=
 n = ts.length ∧ ∀ k (hk : k < ts.length), ∃ ad, A = some ad ∧ (ad.add (k * 2)).block < B ∧ w.cell? (ad.add (k * 2)) = some (.int .i64 (ts[k].kind)) ∧ w.cell? ⟨(ad.add (k * 2)).block, (ad.add (k * 2)).off + 1, none⟩ = some (.string (ba (ts[k].text))) ∧ TokOk ts[k]
section
variable {w w' : World} {B B' n : Nat} {A : Option Addr} {ts : List (Tok)}
theorem Toks.below (h : Toks w B A n ts) (hb : Below B w w') : Toks w' B A n ts := by
 refine ⟨h.1, fun k hk => ?_⟩
 obtain ⟨ad, e, h1, c0, c1, h5⟩ := h.2 k hk
 exact ⟨ad, e, h1, (hb.cell h1).trans c0, (hb.cell (p := ⟨(ad.add (k * 2)).block, _, none⟩) h1).trans c1, h5⟩
theorem Toks.more (h : Toks w B A n ts) (hB : B ≤ B') : Toks w B' A n ts := by
 refine ⟨h.1, fun k hk => ?_⟩
 obtain ⟨ad, e, h1, h2⟩ := h.2 k hk
 exact ⟨ad, e, Nat.lt_of_lt_of_le h1 hB, h2⟩
theorem Toks.nil_ : Toks w B A 0 [] := ⟨rfl, fun k hk => by simp at hk⟩
theorem Toks.len (h : Toks w B A n ts) : ts.length = n := h.1.symm
theorem Toks.cutA (h : Toks w B A n ts) (k : Nat) (hk : k ≤ n) : Toks w B A k (ts.take k) := by
 refine ⟨by rw [List.length_take, h.len]; omega, fun j hj => ?_⟩
 rw [List.length_take] at hj
 have := h.2 j (by omega)
 rw [List.getElem_take]
 exact this
theorem Toks.cutB {ad : Addr} (h : Toks w B (some ad) n ts) (k : Nat) (hk : k ≤ n) : Toks w B (some (ad.add (k * 2))) (n - k) (ts.drop k) := by
 refine ⟨by rw [List.length_drop, h.len], fun j hj => ?_⟩
 rw [List.length_drop] at hj
 obtain ⟨ad', e, r⟩ := h.2 (k + j) (by omega)
 injection e with e
 subst e
 refine ⟨_, rfl, ?_⟩
 rw [add_add', show k * 2 + j * 2 = (k + j) * 2 by omega, List.getElem_drop]
 exact r
end
structure OwnToks (w : World) (B : Nat) (v : Value) (ts : List (Tok)) : Prop where
 row : w.ownsRow B 94 2 v ts.length (ts.flatMap tokCells)
 each : ∀ t, t ∈ ts → TokOk t
theorem OwnToks.nil_ (w : World) (B : Nat) : OwnToks w B (.slice none 0 0) [] := ⟨World.ownsRow_nil _ _ _ _, fun t h => by cases h⟩
theorem OwnToks.below {w w' : World} {B : Nat} {v : Value} {ts : List (Tok)} (h : OwnToks w B v ts) (hb : Below w.heap.size w w') : OwnToks w' B v ts :=
 ⟨ownsRow_block h.row fun b e => hb.block b (h.row.lt b e).2, h.each⟩
theorem OwnToks.block {w w' : World} {B : Nat} {v : Value} {ts : List (Tok)} (h : OwnToks w B v ts) (hb : ∀ b, v.ownBlock = some b → w'.heap[b]? = w.heap[b]?) : OwnToks w' B v ts := ⟨ownsRow_block h.row hb, h.each⟩
theorem OwnToks.more {w : World} {B B' : Nat} {v : Value} {ts : List (Tok)} (h : OwnToks w B v ts) (hB : B' ≤ B) : OwnToks w B' v ts := by
 obtain ⟨⟨h0, h1⟩, h2⟩ := h
 refine ⟨⟨h0, ?_⟩, h2⟩
 rcases h1 with h1 | ⟨g, cap, cur, e, hb, r⟩
 ·exact .inl h1
 ·exact .inr ⟨g, cap, cur, e, by omega, r⟩
theorem tok_len (ts : List (Tok)) : (ts.flatMap tokCells).length = ts.length * 2 := by induction ts with | nil => rfl | cons a r ih => simp [tokCells] at ih ⊢; omega
theorem tok_get : ∀ (ts : List (Tok)) j (hj : j < ts.length) i (hi : i < 2), (ts.flatMap tokCells)[j * 2 + i]? = (tokCells ts[j])[i]? := fun ts => by
 induction ts with
 | nil => intro j hj; simp at hj
 | cons a r ih =>
  intro j hj i hi
  cases j with
  | zero =>
   simp only [List.flatMap_cons, List.getElem_cons_zero, Nat.zero_mul, Nat.zero_add]
   rw [List.getElem?_append_left (by simp [tokCells]; omega)]
  | succ j =>
   have := ih j (by simpa using hj) i hi
   simp only [List.flatMap_cons, List.getElem_cons_succ]
   rw [List.getElem?_append_right (by simp [tokCells]; omega), show (j + 1) * 2 + i - (tokCells a).length = j * 2 + i by simp [tokCells]; omega]
   exact this
theorem tok_addS (a : Addr) {i : Nat} (hi : i ≠ 0) : a.add i = ⟨a.block, a.off + i, none⟩ := by unfold Addr.add; rw [if_neg hi]
theorem OwnToks.reads {w : World} {B : Nat} {v : Value} {ts : List (Tok)} (h : OwnToks w B v ts) : ∃ A c, v = .slice A ts.length c ∧ ts.length ≤ c ∧ c ≤ maxLen ∧ Toks w w.heap.size A ts.length ts := by
 have h0 := h.row
 rcases h0.2 with ⟨rfl, hn⟩ | ⟨g, cap, cur, rfl, hb, hg, q1, q2, q3⟩
 ·have : ts = [] := List.eq_nil_of_length_eq_zero hn
  subst this
  exact ⟨none, 0, rfl, Nat.le_refl _, by simp, Toks.nil_⟩
 ·refine ⟨_, cap, rfl, q1, q2, rfl, fun k hk => ?_⟩
  have hc : ∀ i u, i < 2 → (tokCells ts[k])[i]? = some u → w.cell? ⟨g, k * 2 + i, none⟩ = some u := fun i u hi hu => by
   have := h0.cells (g := g) rfl (k * 2 + i) u (by rw [tok_get ts k hk i hi]; exact hu)
   unfold Addr.add at this
   by_cases e0 : k * 2 + i = 0
   ·rw [if_pos e0] at this; rw [e0]; exact this
   ·rw [if_neg e0] at this; rw [Nat.zero_add] at this; exact this
  have e1 : (Addr.add ⟨g, 0, none⟩ (k * 2)) = ⟨g, k * 2, none⟩ := by
   unfold Addr.add
   split
   ·rename_i e0; rw [e0]
   ·rw [Nat.zero_add]
  refine ⟨⟨g, 0, none⟩, rfl, by rw [add_block]; exact heap_lt hg, ?_, ?_, h.each _ (List.getElem_mem hk)⟩
  ·rw [e1]; exact hc 0 _ (by omega) rfl
  ·rw [e1]; exact hc 1 _ (by omega) rfl
theorem OwnToks.unfrozen {w : World} {B n c : Nat} {ad : Addr} {ts : List (Tok)} (h : OwnToks w B (.slice (some ad) n c) ts) (i : Nat) : w.frozen? ⟨ad.block, i, none⟩ = false ∧ ad.block < w.heap.size := by
 rcases h.row.2 with ⟨e, _⟩ | ⟨g', cap, cur, e, _, hg, _⟩
 ·cases e
 ·injection e with e
  injection e with e
  subst e
  exact ⟨by simp [World.frozen?, hg], heap_lt hg⟩
theorem tok_one (l : List (Tok)) : ∀ u ∈ l.flatMap tokCells, u.oneCell' = true := by
 intro u hu
 obtain ⟨t, _, ht⟩ := List.mem_flatMap.1 hu
 simp only [tokCells, List.mem_cons, List.not_mem_nil, or_false] at ht
 rcases ht with rfl | rfl <;> rfl
set_option maxRecDepth 100000 in
theorem run_pushTok {W : World} {B : Nat} {v : Value} {ts : List (Tok)} {x0 : Int} {x1 : List UInt8} (hT : OwnToks W B v ts) (hB : B ≤ W.heap.size) (hf : TokOk (⟨x0, x1⟩ : Tok)) (hlen : ts.length ≤ 1000000000) (c : Nat) (ty : TypeId) :
  ∃ v' w', (Builtin.append_ #[90, 90] ty #[v, .slice (some ⟨W.heap.size, 0, none⟩) 1 c]).run Tryz.prog (W.alloc (.cells #[.int .i64 x0, .string (ba x1)] 94)) = .ok v' w' ∧ OwnToks w' B v' (ts ++ [(⟨x0, x1⟩ : Tok)]) ∧ W.grownBy w' v.ownBlock := by
 obtain ⟨i0, hi, hz0, hz1, hz2⟩ := info_parts tok_info
 obtain ⟨v', w', hrun, h1, h2, _, h4⟩ := run_append_own_at (P := Tryz.prog) (W.alloc (.cells #[.int .i64 x0, .string (ba x1)] 94)) B 90 ty 94 i0 _ 2 24 Tryz.underlying90 hi hz0 hz1 hz2 rfl (by omega) v ts.length (ts.flatMap tokCells) (World.ownsRow.alloc hT.row _) ⟨W.heap.size, 0, none⟩ 1 c (tokCells (⟨x0, x1⟩ : Tok)) rfl (World.news_of_block (MapKept.heap_alloc W _).1) (fun u hu => tok_one [(⟨x0, x1⟩ : Tok)] u (by simpa using hu)) (by simp only [maxLen]; omega) (by omega) (by simp; omega)
 have h5 := World.grownBy_alloc W (.cells #[.int .i64 x0, .string (ba x1)] 94) v.ownBlock
 refine ⟨v', w', hrun, ⟨by simpa using h1, fun t ht => ?_⟩, ⟨h2.os.trans h5.os, h2.tape.trans h5.tape, h2.output.trans h5.output, Nat.le_trans h5.size h2.size, fun k hk hne => (h2.block k (by simp; omega) hne).trans (h5.block k hk hne)⟩⟩
 rcases List.mem_append.1 ht with ht | ht
 ·exact hT.each t ht
 ·rw [List.mem_singleton] at ht; subst ht; exact hf
theorem wp_pushTok {o : Oper} {a : Act} {K : Act → World → Prop} {W : World} {Q : Exit → Act → World → Prop} {B : Nat} {v : Value} {ts : List (Tok)} {x0 : Int} {x1 : List UInt8} (hT : OwnToks W B v ts) (hB : B ≤ W.heap.size) (hf : TokOk (⟨x0, x1⟩ : Tok))
  (hlen : ts.length ≤ 1000000000) (s y : Operand) (c : Nat)
  (ho : o.op = .call { callee := .builtin .append, args := #[s, y], argTypes := #[90, 90] }) (hs : a.eval s = v) (hx : a.eval y = .slice (some ⟨W.heap.size, 0, none⟩) 1 c)
  (h : ∀ v' w', OwnToks w' B v' (ts ++ [(⟨x0, x1⟩ : Tok)]) → W.grownBy w' v.ownBlock → K (a.put o.dst v') w') : o.wp Tryz.prog a (W.alloc (.cells #[.int .i64 x0, .string (ba x1)] 94)) K Q := by
 obtain ⟨v', w', hrun, h1, h2⟩ := run_pushTok hT hB hf hlen c o.type
 unfold Oper.wp execOp
 simp only [ho, resolve, invoke, builtin, Sem.run_bind, Sem.run_pure, Result.andThen_ok, List.map_toArray, List.map_cons, List.map_nil, hs, hx, hrun]
 exact h v' w' h1 h2
theorem step_pushTok {ops : Array Oper} {o : Oper} {a : Act} {W : World} {K : Act → World → Prop} {Q : Exit → Act → World → Prop} {E : Prop} {B : Nat} {v : Value} {ts : List (Tok)} {x0 : Int} {x1 : List UInt8} (hT : OwnToks W B v ts) (hB : B ≤ W.heap.size) (hf : TokOk (⟨x0, x1⟩ : Tok))
  (hlen : ts.length ≤ 1000000000) (hgd : o.guard = none) (s y : Operand) (c : Nat)
  (ho : o.op = .call { callee := .builtin .append, args := #[s, y], argTypes := #[90, 90] }) (hs : a.eval s = v) (hx : a.eval y = .slice (some ⟨W.heap.size, 0, none⟩) 1 c)
  (h : ∀ v' w', OwnToks w' B v' (ts ++ [(⟨x0, x1⟩ : Tok)]) → W.grownBy w' v.ownBlock → K (a.put o.dst v') w') :
  if Region.wanted o (yielded ops a.tmps) = true then Oper.wp Tryz.prog o a (W.alloc (.cells #[.int .i64 x0, .string (ba x1)] 94)) K Q else E := by
 have hw : Region.wanted o (yielded ops a.tmps) = true := by simp [Region.wanted, hgd]
 rw [if_pos hw]
 exact wp_pushTok hT hB hf hlen s y c ho hs hx h
theorem wpList_pushTok {ops : Array Oper} {rest : List Oper} {o : Oper} {a : Act} {W : World} {Q : Exit → Act → World → Prop} {B : Nat} {v : Value} {ts : List (Tok)} {x0 : Int} {x1 : List UInt8} (hT : OwnToks W B v ts) (hB : B ≤ W.heap.size) (hf : TokOk (⟨x0, x1⟩ : Tok))
  (hlen : ts.length ≤ 1000000000) (hgd : o.guard = none) (s y : Operand) (c : Nat)
  (ho : o.op = .call { callee := .builtin .append, args := #[s, y], argTypes := #[90, 90] }) (hs : a.eval s = v) (hx : a.eval y = .slice (some ⟨W.heap.size, 0, none⟩) 1 c)
  (h : ∀ v' w', OwnToks w' B v' (ts ++ [(⟨x0, x1⟩ : Tok)]) → W.grownBy w' v.ownBlock → wpList Tryz.prog ops Q rest (a.put o.dst v') w') :
  wpList Tryz.prog ops Q (o :: rest) a (W.alloc (.cells #[.int .i64 x0, .string (ba x1)] 94)) :=
 wpList_plain hgd fun _ hK => wp_pushTok hT hB hf hlen s y c ho hs hx fun v' w' h2 h3 => hK _ _ (h v' w' h2 h3)
theorem Toks.cells {w : World} {B m : Nat} {ad : Addr} {l : List (Tok)} (h : Toks w B (some ad) m l) : ∀ j u, (l.flatMap tokCells)[j]? = some u → w.cell? (ad.add j) = some u := by
 intro j u hu
 have hj : j < l.length * 2 := by have := (List.getElem?_eq_some_iff.1 hu).1; rw [tok_len] at this; exact this
 obtain ⟨k, i, hi, rfl⟩ : ∃ k i, i < 2 ∧ j = k * 2 + i := ⟨j / 2, j % 2, by omega, by omega⟩
 have hk : k < l.length := by omega
 rw [tok_get l k hk i hi] at hu
 obtain ⟨ad', e, _, c0, c1, _⟩ := h.2 k hk
 injection e with e
 subst e
 rw [← add_add']
 match i, hi with
 | 0, _ =>
  have hu' : Value.int .i64 (l[k].kind) = u := Option.some.inj hu
  subst hu'
  have e0 : (ad.add (k * 2)).add 0 = ad.add (k * 2) := by unfold Addr.add; rfl
  rw [e0]; exact c0
 | 1, _ =>
  have hu' : Value.string (ba (l[k].text)) = u := Option.some.inj hu
  subst hu'
  rw [tok_addS _ (by decide)]; exact c1
set_option maxRecDepth 100000 in
theorem run_noneTok (w : World) (B : Nat) (t ty : TypeId) (ht : Tryz.prog.underlying t = some (.slice 94)) (v : Value) (acc : List (Tok)) (hown : OwnToks w B v acc) (c : Nat) : (Builtin.append_ #[t, t] ty #[v, .slice none 0 c]).run Tryz.prog w = .ok v w := by
 obtain ⟨i0, hi, hz0, hz1, hz2⟩ := info_parts tok_info
 rcases hown.row.2 with ⟨rfl, _⟩ | ⟨g, cap, cur, rfl, _, _, hnc, _⟩
 ·simp [Builtin.append_, run_underlying ht, sizeOf, typeInfo, hi, Builtin.lenOf, Builtin.firstCells]
 ·simp [Builtin.append_, run_underlying ht, sizeOf, typeInfo, hi, Builtin.lenOf, Builtin.firstCells, hnc, storeCells]
set_option maxRecDepth 100000 in
theorem run_joinTok (w : World) (B : Nat) (t ty : TypeId) (ht : Tryz.prog.underlying t = some (.slice 94)) (v : Value) (acc : List (Tok)) (hown : OwnToks w B v acc) (hB : B ≤ w.heap.size)
  (D : Nat) (A : Option Addr) (m c : Nat) (l : List (Tok)) (hr : Toks w D A m l) (hlen : acc.length + m ≤ 1000000000) :
  ∃ v' w', (Builtin.append_ #[t, t] ty #[v, .slice A m c]).run Tryz.prog w = .ok v' w' ∧ OwnToks w' B v' (acc ++ l) ∧ w.grownBy w' v.ownBlock ∧ (v'.ownBlock = v.ownBlock ∨ ∃ k, v'.ownBlock = some k ∧ w.heap.size ≤ k) := by
 obtain ⟨i0, hi, hz0, hz1, hz2⟩ := info_parts tok_info
 have hml := hr.len
 rcases A with _ | ad
 ·have hl : l = [] := by
   cases l with
   | nil => rfl
   | cons a r => obtain ⟨ad, e, _⟩ := hr.2 0 (by simp); cases e
  subst hl
  obtain rfl : m = 0 := hml.symm
  exact ⟨v, w, run_noneTok w B t ty ht v acc hown c, by simpa using hown, World.grownBy.refl w _, .inl rfl⟩
 ·obtain ⟨v', w', hrun, h2, h3, _, h5⟩ := run_append_own_at (P := Tryz.prog) w B t ty 94 i0 _ 2 24 ht hi hz0 hz1 hz2 rfl (by omega) v acc.length (acc.flatMap tokCells) hown.row ad m c (l.flatMap tokCells) (by rw [tok_len, hml]) hr.cells (tok_one l) (by simp only [maxLen]; omega) (by omega) hB
  refine ⟨v', w', hrun, ⟨?_, fun t ht => ?_⟩, h3, ?_⟩
  ·rw [List.flatMap_append, List.length_append, hml]; exact h2
  ·rcases List.mem_append.1 ht with ht | ht
   ·exact hown.each t ht
   ·obtain ⟨k, hk, rfl⟩ := List.getElem_of_mem ht
    obtain ⟨_, _, _, _, _, hb⟩ := hr.2 k hk
    exact hb
  ·rcases h5 with h | h
   ·exact .inl h
   ·exact .inr ⟨_, h, Nat.le_refl _⟩
theorem wpList_joinTok {ops : Array Oper} {rest : List Oper} {o : Oper} {a : Act} {w : World} {Q : Exit → Act → World → Prop} {B : Nat} {v : Value} {acc : List (Tok)} (hown : OwnToks w B v acc) (hB : B ≤ w.heap.size)
  {D : Nat} {A : Option Addr} {m : Nat} {l : List (Tok)} (hr : Toks w D A m l) (hlen : acc.length + m ≤ 1000000000) (hgd : o.guard = none) (s x : Operand) (t : TypeId) (c : Nat)
  (ho : o.op = .call { callee := .builtin .append, args := #[s, x], argTypes := #[t, t] }) (ht : Tryz.prog.underlying t = some (.slice 94)) (hs : a.eval s = v) (hx : a.eval x = .slice A m c)
  (h : ∀ v' w', OwnToks w' B v' (acc ++ l) → w.grownBy w' v.ownBlock → (v'.ownBlock = v.ownBlock ∨ ∃ k, v'.ownBlock = some k ∧ w.heap.size ≤ k) → wpList Tryz.prog ops Q rest (a.put o.dst v') w') : wpList Tryz.prog ops Q (o :: rest) a w := by
 refine wpList_plain hgd fun K hK => ?_
 obtain ⟨v', w', hrun, h2, h3, h4⟩ := run_joinTok w B t o.type ht v acc hown hB D A m c l hr hlen
 unfold Oper.wp execOp
 simp only [ho, resolve, invoke, builtin, Sem.run_bind, Sem.run_pure, Result.andThen_ok, List.map_toArray, List.map_cons, List.map_nil, hs, hx, hrun]
 exact hK _ _ (h v' w' h2 h3 h4)
end Go.Proofs.YthidbmeaccpjdaaGreatDoor
end
section
namespace Go.Proofs.YthidbmeaccpjdaaGreatDoor
open Go.RowKit
set_option linter.unusedVariables false
theorem front_cut {l : List UInt8} {s : ByteArray} {n : Nat} (hs : ba l = s) (hn : s.size = n) (m : Nat) : s.extract 0 m = ba (l.take m) ∧ s.extract m n = ba (l.drop m) := by
 subst hs
 subst hn
 exact ⟨by rw [ba_cut]; rfl, ba_drop l m⟩
theorem closedV_le {z c : UInt8} {r : List UInt8} : (closedV z (c :: r)).1 ≤ r.length + 1 := by
 unfold closedV
 rw [show (c :: r).drop 1 = r from rfl]
 split
 ·rename_i m hm
  have := closeP_le _ _ _ _ hm
  show m + 1 ≤ _
  omega
 ·exact Nat.le_refl _
theorem front_open {c z : UInt8} {r : List UInt8} {k : Int} (hb : blankB c = false) (ho : opens c = some (k, z)) :
  frontP (c :: r) = (if (closedV z (c :: r)).2 = true then k else 7, (closedV z (c :: r)).1) := by
 rw [frontP_cons, if_neg (by rw [hb]; decide), ho]
 unfold closedV
 rw [show (c :: r).drop 1 = r from rfl]
 show (match closeP z 1 r with | some n => (k, n + 1) | none => (7, r.length + 1)) = _
 split <;> rename_i h <;> simp [h]
theorem front_end (w : World) {c : UInt8} {r : List UInt8} {s : ByteArray} {k : Int} {m : Nat} (hs : ba (c :: r) = s) (hn : s.size = r.length + 1) (hf : frontP (c :: r) = (k, m)) :
  Ending.returned (.tuple #[.agg #[.int .i64 k, .string (s.extract 0 m)], .string (s.extract m (r.length + 1))]) =
   .returned (.tuple #[.agg #[.int .i64 (frontP (c :: r)).1, .string (ba ((c :: r).take (frontP (c :: r)).2))], .string (ba ((c :: r).drop (frontP (c :: r)).2))]) ∧
  (w.alloc (.cells #[.int .i64 k, .string (s.extract 0 m)] 94)).drew = (w.alloc (.cells #[.int .i64 (frontP (c :: r)).1, .string (ba ((c :: r).take (frontP (c :: r)).2))] 94)).drew := by
 rw [hf, (front_cut hs hn m).1, (front_cut hs hn m).2]
 exact ⟨rfl, rfl⟩
set_option maxRecDepth 100000 in
set_option maxHeartbeats 4000000 in
theorem front_any (c : UInt8) (r : List UInt8) (w : World) (hl : (c :: r).length ≤ 1000000000) :
  Calls Tryz.prog 155 #[.string (ba (c :: r))] w fun e w' => e = .returned (.tuple #[.agg #[.int .i64 (frontP (c :: r)).1, .string (ba ((c :: r).take (frontP (c :: r)).2))], .string (ba ((c :: r).drop (frontP (c :: r)).2))]) ∧ w' = (w.alloc (.cells #[.int .i64 (frontP (c :: r)).1, .string (ba ((c :: r).take (frontP (c :: r)).2))] 94)).drew := by
 have HRB := Lib.hid (fun W => row_blank (c :: r) W hl)
 have HRA := Lib.hid (fun W => row_atom (c :: r) W hl)
 have HCL := Lib.hid (fun z W => closed_any z (c :: r) W hl (by simp))
 have HB := Lib.hid (fun W => tblank_any c W)
 have HA := Lib.hid (fun W => tatom_any c W)
 have HX := Lib.hid (fun W => index_any c W)
 have hsz : (ba (c :: r)).size = r.length + 1 := by rw [ba_size]; simp
 obtain ⟨s, hs⟩ : ∃ s, ba (c :: r) = s := ⟨_, rfl⟩
 rw [hs] at hsz HRB HRA HCL ⊢
 have HS := Lib.hid hs
 have hget : ∀ h : 0 < s.size, s[0] = c := fun h => by
  have h2 := HS.out
  subst h2
  rfl
 clear hs
 obtain ⟨b, hb⟩ : ∃ b, blankB c = b := ⟨_, rfl⟩
 rw [hb] at HB
 have HBB := Lib.hid hb
 clear hb
 obtain ⟨x, hx⟩ : ∃ x : Int, (c.toNat : Int) = x := ⟨_, rfl⟩
 simp only [hx] at HB HA HX
 have HXX := Lib.hid hx
 have hgi : ∀ h : 0 < s.size, ((s[0]).toNat : Int) = x := fun h => by rw [hget h]; exact hx
 clear hx hget
 cases b
 ·by_cases e40 : x = 40
  ·have g40 : (x == 40) = true := by simpa using e40
   have HC := Lib.hid (show c = 40 from u8_int_eq.1 (by rw [HXX.out]; exact e40))
   have HF1 := Lib.hid (front_open (r := r) HBB.out (show opens c = some (3, 41) by rw [HC.out]; rfl))
   have hm1 : (closedV 41 (c :: r)).1 ≤ r.length + 1 := closedV_le
   have HCZ : Hid (∀ W, Calls Tryz.prog 205 #[.string s, .int .u8 41] W fun e w' => e = .returned (.tuple #[.int .i64 ((closedV 41 (c :: r)).1 : Nat), .bool (closedV 41 (c :: r)).2]) ∧ w' = W) := Lib.hid (HCL.out 41)
   obtain ⟨⟨m, ok⟩, hm⟩ : ∃ v, closedV 41 (c :: r) = v := ⟨_, rfl⟩
   rw [hm] at HF1 hm1 HCZ
   clear hm e40 HA HX HRA HRB HCL
   cases ok
   ·have HF : Hid (frontP (c :: r) = (7, m)) := Lib.hid (by rw [HF1.out]; rfl)
    go_enter Tryz.func155, Tryz.ntmps155
    go_wp2_with fail
    refine (HB.out _).mono ?_
    rintro e w' ⟨rfl, rfl⟩
    go_wp2_with fail
    refine (HCZ.out _).mono ?_
    rintro e w' ⟨rfl, rfl⟩
    go_wp2
    have hm0 : (0 : Int) ≤ (m : Int) := by omega
    have hms : (m : Int) ≤ (s.size : Int) := by omega
    clear HB HCZ
    go_region
    go_wp2
    go_returns
    exact front_end w HS.out hsz HF.out
   ·have HF : Hid (frontP (c :: r) = (3, m)) := Lib.hid (by rw [HF1.out]; rfl)
    go_enter Tryz.func155, Tryz.ntmps155
    go_wp2_with fail
    refine (HB.out _).mono ?_
    rintro e w' ⟨rfl, rfl⟩
    go_wp2_with fail
    refine (HCZ.out _).mono ?_
    rintro e w' ⟨rfl, rfl⟩
    go_wp2
    have hm0 : (0 : Int) ≤ (m : Int) := by omega
    have hms : (m : Int) ≤ (s.size : Int) := by omega
    clear HB HCZ
    go_region
    go_wp2
    go_returns
    exact front_end w HS.out hsz HF.out
  have g40 : (x == 40) = false := by simpa using e40
  have HN0 := Lib.hid (show ¬ c = 40 from fun h => e40 (by rw [← HXX.out, h]; rfl))
  clear e40
  by_cases e34 : x = 34
  ·have g34 : (x == 34) = true := by simpa using e34
   have HC := Lib.hid (show c = 34 from u8_int_eq.1 (by rw [HXX.out]; exact e34))
   have HF1 := Lib.hid (front_open (r := r) HBB.out (show opens c = some (2, 34) by rw [HC.out]; rfl))
   have hm1 : (closedV 34 (c :: r)).1 ≤ r.length + 1 := closedV_le
   have HCZ : Hid (∀ W, Calls Tryz.prog 205 #[.string s, .int .u8 34] W fun e w' => e = .returned (.tuple #[.int .i64 ((closedV 34 (c :: r)).1 : Nat), .bool (closedV 34 (c :: r)).2]) ∧ w' = W) := Lib.hid (HCL.out 34)
   obtain ⟨⟨m, ok⟩, hm⟩ : ∃ v, closedV 34 (c :: r) = v := ⟨_, rfl⟩
   rw [hm] at HF1 hm1 HCZ
   clear hm e34 HA HX HRA HRB HCL
   cases ok
   ·have HF : Hid (frontP (c :: r) = (7, m)) := Lib.hid (by rw [HF1.out]; rfl)
    go_enter Tryz.func155, Tryz.ntmps155
    go_wp2_with fail
    refine (HB.out _).mono ?_
    rintro e w' ⟨rfl, rfl⟩
    go_wp2_with fail
    refine (HCZ.out _).mono ?_
    rintro e w' ⟨rfl, rfl⟩
    go_wp2
    have hm0 : (0 : Int) ≤ (m : Int) := by omega
    have hms : (m : Int) ≤ (s.size : Int) := by omega
    clear HB HCZ
    go_region
    go_wp2
    go_returns
    exact front_end w HS.out hsz HF.out
   ·have HF : Hid (frontP (c :: r) = (2, m)) := Lib.hid (by rw [HF1.out]; rfl)
    go_enter Tryz.func155, Tryz.ntmps155
    go_wp2_with fail
    refine (HB.out _).mono ?_
    rintro e w' ⟨rfl, rfl⟩
    go_wp2_with fail
    refine (HCZ.out _).mono ?_
    rintro e w' ⟨rfl, rfl⟩
    go_wp2
    have hm0 : (0 : Int) ≤ (m : Int) := by omega
    have hms : (m : Int) ≤ (s.size : Int) := by omega
    clear HB HCZ
    go_region
    go_wp2
    go_returns
    exact front_end w HS.out hsz HF.out
  have g34 : (x == 34) = false := by simpa using e34
  have HN1 := Lib.hid (show ¬ c = 34 from fun h => e34 (by rw [← HXX.out, h]; rfl))
  clear e34
  by_cases e91 : x = 91
  ·have g91 : (x == 91) = true := by simpa using e91
   have HC := Lib.hid (show c = 91 from u8_int_eq.1 (by rw [HXX.out]; exact e91))
   have HF1 := Lib.hid (front_open (r := r) HBB.out (show opens c = some (5, 93) by rw [HC.out]; rfl))
   have hm1 : (closedV 93 (c :: r)).1 ≤ r.length + 1 := closedV_le
   have HCZ : Hid (∀ W, Calls Tryz.prog 205 #[.string s, .int .u8 93] W fun e w' => e = .returned (.tuple #[.int .i64 ((closedV 93 (c :: r)).1 : Nat), .bool (closedV 93 (c :: r)).2]) ∧ w' = W) := Lib.hid (HCL.out 93)
   obtain ⟨⟨m, ok⟩, hm⟩ : ∃ v, closedV 93 (c :: r) = v := ⟨_, rfl⟩
   rw [hm] at HF1 hm1 HCZ
   clear hm e91 HA HX HRA HRB HCL
   cases ok
   ·have HF : Hid (frontP (c :: r) = (7, m)) := Lib.hid (by rw [HF1.out]; rfl)
    go_enter Tryz.func155, Tryz.ntmps155
    go_wp2_with fail
    refine (HB.out _).mono ?_
    rintro e w' ⟨rfl, rfl⟩
    go_wp2_with fail
    refine (HCZ.out _).mono ?_
    rintro e w' ⟨rfl, rfl⟩
    go_wp2
    have hm0 : (0 : Int) ≤ (m : Int) := by omega
    have hms : (m : Int) ≤ (s.size : Int) := by omega
    clear HB HCZ
    go_region
    go_wp2
    go_returns
    exact front_end w HS.out hsz HF.out
   ·have HF : Hid (frontP (c :: r) = (5, m)) := Lib.hid (by rw [HF1.out]; rfl)
    go_enter Tryz.func155, Tryz.ntmps155
    go_wp2_with fail
    refine (HB.out _).mono ?_
    rintro e w' ⟨rfl, rfl⟩
    go_wp2_with fail
    refine (HCZ.out _).mono ?_
    rintro e w' ⟨rfl, rfl⟩
    go_wp2
    have hm0 : (0 : Int) ≤ (m : Int) := by omega
    have hms : (m : Int) ≤ (s.size : Int) := by omega
    clear HB HCZ
    go_region
    go_wp2
    go_returns
    exact front_end w HS.out hsz HF.out
  have g91 : (x == 91) = false := by simpa using e91
  have HN2 := Lib.hid (show ¬ c = 91 from fun h => e91 (by rw [← HXX.out, h]; rfl))
  clear e91
  have HO := Lib.hid (show opens c = none by unfold opens; rw [if_neg HN0.out, if_neg HN1.out, if_neg HN2.out])
  have HF0 := Lib.hid (show frontP (c :: r) = if specials.contains c = true then (4, 1) else if atomB c = true then (1, ((c :: r).takeWhile atomB).length) else (7, 1) by
   rw [frontP_cons, if_neg (by rw [HBB.out]; decide), HO.out])
  have HSI := Lib.hid (specials_index c)
  obtain ⟨v, hv⟩ : ∃ v, Lib.indexByte specials c = v := ⟨_, rfl⟩
  rw [hv] at HSI
  simp only [hv] at HX
  clear hv HCL
  by_cases ev : v < 0
  ·have gv : decide (v ≥ 0) = false := decide_eq_false (by omega)
   have HSC := Lib.hid (show specials.contains c = false by have := HSI.out; simp [ev] at this; simpa using this)
   have HAC := HA.out
   obtain ⟨a, ha⟩ : ∃ a, atomB c = a := ⟨_, rfl⟩
   rw [ha] at HF0
   simp only [ha] at HAC
   have HAD := Lib.hid HAC
   clear HAC ha HA
   cases a
   ·obtain ⟨m, hm⟩ : ∃ m : Nat, m = 1 := ⟨_, rfl⟩
    have HF : Hid (frontP (c :: r) = (7, 1)) := Lib.hid (by rw [HF0.out, if_neg (by rw [HSC.out]; decide), if_neg (by decide)])
    clear hm ev
    go_enter Tryz.func155, Tryz.ntmps155
    go_wp2_with fail
    refine (HB.out _).mono ?_
    rintro e w' ⟨rfl, rfl⟩
    go_wp2_with fail
    refine (HX.out _).mono ?_
    rintro e w' ⟨rfl, rfl⟩
    go_wp2_with fail
    refine (HAD.out _).mono ?_
    rintro e w' ⟨rfl, rfl⟩
    go_wp2
    have hms : (1 : Int) ≤ (s.size : Int) := by omega
    clear HB HX HAD HRA HRB
    go_region
    go_wp2
    go_returns
    exact front_end w HS.out hsz HF.out
   ·obtain ⟨m, hm⟩ : ∃ m, ((c :: r).takeWhile atomB).length = m := ⟨_, rfl⟩
    rw [hm] at HRA HF0
    have hm1 : m ≤ r.length + 1 := by rw [← hm]; exact (List.takeWhile_prefix _).length_le
    have HF : Hid (frontP (c :: r) = (1, m)) := Lib.hid (by rw [HF0.out, if_neg (by rw [HSC.out]; decide), if_pos rfl])
    clear hm ev
    go_enter Tryz.func155, Tryz.ntmps155
    go_wp2_with fail
    refine (HB.out _).mono ?_
    rintro e w' ⟨rfl, rfl⟩
    go_wp2_with fail
    refine (HX.out _).mono ?_
    rintro e w' ⟨rfl, rfl⟩
    go_wp2_with fail
    refine (HAD.out _).mono ?_
    rintro e w' ⟨rfl, rfl⟩
    go_wp2_with fail
    refine (HRA.out _).mono ?_
    rintro e w' ⟨rfl, rfl⟩
    go_wp2
    have hm0 : (0 : Int) ≤ (m : Int) := by omega
    have hms : (m : Int) ≤ (s.size : Int) := by omega
    clear HB HX HAD HRA HRB
    go_region
    go_wp2
    go_returns
    exact front_end w HS.out hsz HF.out
  ·have gv : decide (v ≥ 0) = true := decide_eq_true (by omega)
   have HSC := Lib.hid (show specials.contains c = true by have := HSI.out; simp [ev] at this; simpa using this)
   have HF : Hid (frontP (c :: r) = (4, 1)) := Lib.hid (by rw [HF0.out, if_pos HSC.out])
   clear ev
   go_enter Tryz.func155, Tryz.ntmps155
   go_wp2_with fail
   refine (HB.out _).mono ?_
   rintro e w' ⟨rfl, rfl⟩
   go_wp2_with fail
   refine (HX.out _).mono ?_
   rintro e w' ⟨rfl, rfl⟩
   go_wp2
   have hms : (1 : Int) ≤ (s.size : Int) := by omega
   clear HB HX HA HRA HRB
   go_region
   go_wp2
   go_returns
   exact front_end w HS.out hsz HF.out
 ·obtain ⟨m, hm⟩ : ∃ m, ((c :: r).takeWhile blankB).length = m := ⟨_, rfl⟩
  rw [hm] at HRB
  have hm1 : m ≤ r.length + 1 := by rw [← hm]; exact (List.takeWhile_prefix _).length_le
  have HF := Lib.hid (show frontP (c :: r) = (6, m) by rw [frontP_cons, if_pos HBB.out, hm])
  clear hm
  go_enter Tryz.func155, Tryz.ntmps155
  go_wp2_with fail
  refine (HB.out _).mono ?_
  rintro e w' ⟨rfl, rfl⟩
  go_wp2_with fail
  refine (HRB.out _).mono ?_
  rintro e w' ⟨rfl, rfl⟩
  go_wp2
  have hm0 : (0 : Int) ≤ (m : Int) := by omega
  have hms : (m : Int) ≤ (s.size : Int) := by omega
  clear HB HA HX HRB HRA HCL
  go_region
  go_wp2
  go_returns
  exact front_end w HS.out hsz HF.out
end Go.Proofs.YthidbmeaccpjdaaGreatDoor
end
section
namespace Go.Proofs.YthidbmeaccpjdaaGreatDoor
open Go.RowKit
set_option linter.unusedVariables false
def ScanRel (w : World) (l : List UInt8) (r : List UInt8) (acc : List Tok) (v : Value) (wr : World) : Prop :=
 OwnToks wr w.heap.size v acc ∧ Below w.heap.size w wr ∧ acc ++ scanP r = scanP l ∧ acc.length + r.length ≤ l.length
def strOf : Value → ByteArray
 | .string s => s
 | _ => ⟨#[]⟩
theorem frontP_kind (l : List UInt8) : 0 ≤ (frontP l).1 ∧ (frontP l).1 ≤ 7 := by
 cases l with
 | nil => exact ⟨by decide, by decide⟩
 | cons c r =>
  rw [frontP_cons]
  unfold opens
  split
  ·exact ⟨by simp, by simp⟩
  ·split
   ·rename_i h
    have hk : 0 ≤ (‹Int› : Int) ∧ (‹Int› : Int) ≤ 7 := by
     revert h
     split
     ·intro h; injection h with h; injection h with h1 h2; subst h1; decide
     ·split
      ·intro h; injection h with h; injection h with h1 h2; subst h1; decide
      ·split
       ·intro h; injection h with h; injection h with h1 h2; subst h1; decide
       ·intro h; cases h
    split
    ·exact hk
    ·exact ⟨by simp, by simp⟩
   ·split
    ·exact ⟨by simp, by simp⟩
    ·split <;> exact ⟨by simp, by simp⟩
def BareRel (w : World) (ts : List Tok) (k : Nat) (v : Value) (wr : World) : Prop := OwnToks wr w.heap.size v (bareP (ts.take k)) ∧ Below w.heap.size w wr
theorem bare_step (ts : List Tok) (k : Nat) (hk : k < ts.length) : bareP (ts.take (k + 1)) = bareP (ts.take k) ++ bareP [ts[k]] := by
 rw [List.take_succ_eq_append_getElem hk]
 unfold bareP
 rw [List.filter_append]
end Go.Proofs.YthidbmeaccpjdaaGreatDoor
end
section
namespace Go.Proofs.YthidbmeaccpjdaaGreatDoor
open Go.RowKit
set_option linter.unusedVariables false
set_option maxRecDepth 100000 in
set_option maxHeartbeats 4000000 in
theorem scan_any (l : List UInt8) (w : World) (hl : l.length ≤ 1000000000) :
  Calls Tryz.prog 78 #[.string (ba l)] w fun e w' => ∃ v, e = .returned v ∧ OwnToks w' w.heap.size v (scanP l) ∧ Below w.heap.size w w' := by
 go_enter Tryz.func78, Tryz.ntmps78
 go_wp2
 go_loopw [0, 2] (fun s v wr => ∃ (r : List UInt8) (acc : List Tok), s = .string (ba r) ∧ Hid (ScanRel w l r acc v wr)) (fun s _ _ => (strOf s).size)
 case atStart => exact ⟨l, [], rfl, OwnToks.nil_ _ _, Below.refl _ _, rfl, by simp⟩
 case round =>
  obtain ⟨r, acc, rfl, HR⟩ := hrel
  have hsz := HR.out.2.1.size
  cases r with
  | nil =>
   have g1 : (ba ([] : List UInt8)).toList.isEmpty = true := by rw [ba_toList]; rfl
   go_wp2
   go_ret
   refine ⟨_, rfl, ?_, HR.out.2.1⟩
   have h := HR.out.2.2.1
   rw [scanP_nil, List.append_nil] at h
   rw [← h]
   exact HR.out.1
  | cons c r =>
   have g1 : (ba (c :: r)).toList.isEmpty = false := by rw [ba_toList]; rfl
   have hlen := HR.out.2.2.2
   have hlen2 : (c :: r).length ≤ l.length := by omega
   have HFR := Lib.hid (fun W => front_any c r W (by omega))
   have HNX := Lib.hid (scanP_cons (l := c :: r) (by simp))
   have HLE := Lib.hid (frontP_len (l := c :: r) (by simp))
   have HK := Lib.hid (frontP_kind (c :: r))
   obtain ⟨⟨k, m⟩, hf⟩ : ∃ v, frontP (c :: r) = v := ⟨_, rfl⟩
   rw [hf] at HNX HLE HK
   simp only [hf] at HFR
   clear hf
   obtain ⟨t, ht⟩ : ∃ t, (c :: r).take m = t := ⟨_, rfl⟩
   obtain ⟨d, hd⟩ : ∃ d, (c :: r).drop m = d := ⟨_, rfl⟩
   have HDL := Lib.hid (show d.length < (c :: r).length by
    have h1 := HLE.out.1
    have h2 := HLE.out.2
    rw [← hd, List.length_drop]
    have h3 : (c :: r).length = r.length + 1 := rfl
    show (c :: r).length - m < _
    have h4 : 0 < m := h1
    omega)
   have HNX2 := Lib.hid (show scanP (c :: r) = ⟨k, t⟩ :: scanP d by rw [HNX.out, ← ht, ← hd])
   simp only [ht, hd] at HFR
   clear ht hd HNX hlen2
   have HB2 : Hid (Below wr.heap.size wr ((((wr.alloc (.cells #[.int .i64 k, .string (ba t)] 94)).alloc (.cells #[.int .i64 k, .string (ba t)] 94)).drew))) := Lib.hid ((((Below.refl _ _).alloc (Nat.le_refl _) _).alloc (by simp) _).drew)
   go_wp2_with fail
   refine (HFR.out _).mono ?_
   rintro e w' ⟨rfl, rfl⟩
   clear HFR
   have HOWN : Hid (OwnToks (((wr.alloc (.cells #[.int .i64 k, .string (ba t)] 94)).alloc (.cells #[.int .i64 k, .string (ba t)] 94)).drew) w.heap.size u2 acc) := Lib.hid (HR.out.1.below HB2.out)
   have hB : w.heap.size ≤ (((wr.alloc (.cells #[.int .i64 k, .string (ba t)] 94)).alloc (.cells #[.int .i64 k, .string (ba t)] 94)).drew).heap.size := by simp; omega
   have HTK : Hid (TokOk (⟨k, t⟩ : Tok)) := Lib.hid (by have h1 := HK.out.1; have h2 := HK.out.2; unfold TokOk; exact ⟨by show _ ≤ k; have : (0 : Int) ≤ k := h1; omega, by show k ≤ _; have : k ≤ (7 : Int) := h2; omega⟩)
   have HAL := Lib.hid (show acc.length ≤ 1000000000 by omega)
   have HWB := Lib.hid (show Below w.heap.size w (((wr.alloc (.cells #[.int .i64 k, .string (ba t)] 94)).alloc (.cells #[.int .i64 k, .string (ba t)] 94)).drew) from HR.out.2.1.trans (HB2.out.mono hsz))
   go_wp2_with (at_builtin; go_must (refine wpList_pushTok (W := (((wr.alloc (.cells #[.int .i64 k, .string (ba t)] 94)).alloc (.cells #[.int .i64 k, .string (ba t)] 94)).drew)) HOWN.out hB HTK.out HAL.out rfl (.tmp 11) (.tmp 13) 1 rfl rfl (by show Value.slice (some ⟨wr.heap.size + 1 + 1, 0, none⟩) 1 1 = _; simp) ?_); intro v2 w2 h1 h2; (have H1 := Lib.hid h1; have H2 := Lib.hid h2; clear h1 h2))
   go_roundw
   case rel =>
    refine ⟨d, acc ++ [⟨k, t⟩], rfl, H1.out, HWB.out.grown H2.out hB fun g e => (HOWN.out.row.lt g e).1, ?_, ?_⟩
    ·rw [List.append_assoc, ← HR.out.2.2.1, HNX2.out]; rfl
    ·have := HDL.out
     rw [List.length_append]
     show acc.length + 1 + _ ≤ _
     omega
   case measure =>
    show (ba d).size < (ba (c :: r)).size
    rw [ba_size, ba_size]
    exact HDL.out
end Go.Proofs.YthidbmeaccpjdaaGreatDoor
end
section
namespace Go.Proofs.YthidbmeaccpjdaaGreatDoor
open Go.RowKit
set_option linter.unusedVariables false
set_option maxRecDepth 100000 in
set_option maxHeartbeats 4000000 in
theorem bare_any (ts : List Tok) (A : Option Addr) (n c : Nat) (w : World) (hT : Toks w w.heap.size A n ts) (hn : n ≤ 1000000000) :
  Calls Tryz.prog 77 #[.slice A n c] w fun e w' => ∃ v, e = .returned v ∧ OwnToks w' w.heap.size v (bareP ts) ∧ Below w.heap.size w w' := by
 go_enter Tryz.func77, Tryz.ntmps77
 have HT := Lib.hid hT
 obtain rfl : n = ts.length := hT.1
 obtain ⟨n, hn2⟩ : ∃ n, ts.length = n := ⟨_, rfl⟩
 have HN := Lib.hid hn2
 rw [hn2] at hn ⊢
 clear hT hn2
 go_wp2
 go_loopw [2, 7] (fun v i wr => ∃ k : Nat, k ≤ n ∧ i = .int .i64 (k : Int) ∧ Hid (BareRel w ts k v wr)) (fun _ i _ => n - (intOf i).toNat)
 case atStart => exact ⟨0, Nat.zero_le _, rfl, OwnToks.nil_ _ _, Below.refl _ _⟩
 case round =>
  obtain ⟨k, hk, rfl, HR⟩ := hrel
  have hsz := HR.out.2.size
  by_cases hlt : k < n
  ·have hk2 : (k : Int) < n := by omega
   have hkl : k < ts.length := by rw [HN.out]; exact hlt
   obtain ⟨ad, rfl, hbl, c0, c1, c2⟩ := (HT.out.below HR.out.2).2 k hkl
   have HP := Lib.hid (bare_step ts k hkl)
   have hal : (bareP (ts.take k)).length ≤ 1000000000 := by
    have h1 : (bareP (ts.take k)).length ≤ (ts.take k).length := List.length_filter_le _ _
    rw [List.length_take] at h1
    omega
   have HAL := Lib.hid hal
   obtain ⟨t, ht⟩ : ∃ t, ts[k] = t := ⟨_, rfl⟩
   rw [ht] at c0 c1 c2 HP
   have HC2 := Lib.hid c2
   clear ht hal c2
   have HOWN : Hid (OwnToks (wr.alloc (.cells #[.int .i64 t.kind, .string (ba t.text)] 94)) w.heap.size u2 (bareP (ts.take k))) := Lib.hid (HR.out.1.below ((Below.refl _ _).alloc (Nat.le_refl _) _))
   have hB : w.heap.size ≤ (wr.alloc (.cells #[.int .i64 t.kind, .string (ba t.text)] 94)).heap.size := by simp; omega
   have HBEL := Lib.hid (HR.out.2.alloc hsz (.cells #[.int .i64 t.kind, .string (ba t.text)] 94))
   by_cases e6 : t.kind = 6
   ·have g6 : (t.kind == 6) = true := by simpa using e6
    have HD := Lib.hid (show bareP [t] = [] by unfold bareP keepB; simp [e6])
    clear e6
    go_wp2
    go_roundw
    case rel =>
     refine ⟨k + 1, by omega, by go_num, ?_, HBEL.out⟩
     rw [HP.out, HD.out, List.append_nil]
     exact HOWN.out
    case measure => simp [intOf] <;> omega
   have g6 : (t.kind == 6) = false := by simpa using e6
   by_cases e3 : t.kind = 3
   ·have g3 : (t.kind == 3) = true := by simpa using e3
    have HD := Lib.hid (show bareP [t] = [] by unfold bareP keepB; simp [e3])
    clear e3 e6
    go_wp2
    go_roundw
    case rel =>
     refine ⟨k + 1, by omega, by go_num, ?_, HBEL.out⟩
     rw [HP.out, HD.out, List.append_nil]
     exact HOWN.out
    case measure => simp [intOf] <;> omega
   have g3 : (t.kind == 3) = false := by simpa using e3
   have HD := Lib.hid (show bareP [t] = [t] by unfold bareP keepB; simp [e3, e6])
   clear e3 e6
   go_wp2_with (at_builtin; go_must (refine wpList_pushTok (W := (wr.alloc (.cells #[.int .i64 t.kind, .string (ba t.text)] 94))) HOWN.out hB HC2.out HAL.out rfl (.tmp 17) (.tmp 19) 1 rfl rfl (by show Value.slice (some ⟨wr.heap.size + 1, 0, none⟩) 1 1 = _; simp) ?_); intro v2 w2 h1 h2; (have H1 := Lib.hid h1; have H2 := Lib.hid h2; clear h1 h2))
   go_roundw
   case rel =>
    refine ⟨k + 1, by omega, by go_num, ?_, HBEL.out.grown H2.out hB fun g e => (HOWN.out.row.lt g e).1⟩
    rw [HP.out, HD.out]
    exact H1.out
   case measure => simp [intOf] <;> omega
  ·obtain rfl : k = n := by omega
   go_wp2
   go_ret
   refine ⟨_, rfl, ?_, HR.out.2⟩
   have := HR.out.1
   rw [List.take_of_length_le (by rw [HN.out]; exact Nat.le_refl _)] at this
   exact this
end Go.Proofs.YthidbmeaccpjdaaGreatDoor
end
section
namespace Go.Proofs.YthidbmeaccpjdaaGreatDoor
open Go.RowKit
set_option linter.unusedVariables false
def Bld (w : World) (B b : Nat) (l : List UInt8) : Prop := Lib.IsBuilderF 64 5 B b (Lib.byteCells l) w
theorem bld_new (w : World) : Bld (w.alloc (.cells #[.pointer none, .slice none 0 0] 64)) w.heap.size w.heap.size [] := Lib.IsBuilderF.of (Lib.fresh_isBuilder 64 5 w)
theorem Bld.alloc {w : World} {B b : Nat} {l : List UInt8} (h : Bld w B b l) (o : Obj) : Bld (w.alloc o) B b l := Lib.IsBuilderF.alloc h o
theorem Bld.below {w w' : World} {B b : Nat} {l : List UInt8} (h : Bld w B b l) (hb : Below w.heap.size w w') : Bld w' B b l := by
 have key : ∀ p, Lib.BuilderAtF 64 5 B b p (Lib.byteCells l) w → Lib.BuilderAtF 64 5 B b p (Lib.byteCells l) w' := by
  rintro p ⟨h1, v, h2, h3, h4⟩
  refine ⟨h1, v, (hb.block b (heap_lt h2)).trans h2, ?_, h4⟩
  obtain ⟨e0, h3⟩ := h3
  refine ⟨e0, ?_⟩
  rcases h3 with h3 | ⟨g, cap, cur, fz, e, q1, q2, q3⟩
  ·exact .inl h3
  ·exact .inr ⟨g, cap, cur, fz, e, q1, (hb.block g (heap_lt q2)).trans q2, q3⟩
 exact h.elim (fun h => .inl (key _ h)) (fun h => .inr (key _ h))
theorem Bld.lt {w : World} {B b : Nat} {l : List UInt8} (h : Bld w B b l) : b < w.heap.size := by
 rcases h with ⟨_, v, hb, _⟩ | ⟨_, v, hb, _⟩ <;> exact heap_lt hb
theorem Bld.base {w : World} {B b : Nat} {l : List UInt8} (h : Bld w B b l) : B ≤ b := by
 rcases h with ⟨h, _⟩ | ⟨h, _⟩ <;> exact h
structure Wrote (w : World) (B b : Nat) (l : List UInt8) (w' : World) : Prop where
 bld : Bld w' B b l
 bel : Below B w w'
 oth : Lib.OthersKept 5 (some b) w w'
def WrotePost (w : World) (B b : Nat) (l : List UInt8) (v : Value) (e : Ending) (w' : World) : Prop := e = .returned v ∧ Wrote w B b l w'
theorem size_builder : (Tryz.prog.info? 64).map (·.size) = some 2 := by kernel_rfl
theorem lies_builder : liesAt Tryz.prog Tryz.prog.depth 64 (2 / Tryz.prog.cellsOf 64) 0 64 1 = true := by kernel_rfl
theorem info_byte : (Tryz.prog.info? 5).map (fun i => (i.zero, i.size, i.bytes)) = some (some (.int .u8 0), 1, 1) := by kernel_rfl
set_option maxRecDepth 100000 in
theorem check_used (b : Nat) (w : World) (h0 : w.cell? ⟨b, 0, none⟩ = some (.pointer (some ⟨b, 0, none⟩))) :
  Calls Tryz.prog 116 #[.pointer (some ⟨b, 0, none⟩)] w fun e w' => e = .returned (.tuple #[]) ∧ w' = w := by
 obtain ⟨j, hj, _⟩ := Option.map_eq_some_iff.1 size_builder
 go_enter Tryz.func116, Tryz.ntmps116
 go_wp2
 rw [Lib.run_neq_ptr_same w _ Tryz.underlying61 hj]
 go_wp2
 go_end0
 exact ⟨rfl, rfl⟩
set_option maxRecDepth 100000 in
theorem check_fresh (b : Nat) (w : World) (h0 : w.cell? ⟨b, 0, none⟩ = some (.pointer none)) (hsh : w.shape? b = some (64, 2)) (hfz : w.frozen? ⟨b, 0, none⟩ = false) :
  Calls Tryz.prog 116 #[.pointer (some ⟨b, 0, none⟩)] w fun e w' => e = .returned (.tuple #[]) ∧ w' = w.setCell ⟨b, 0, none⟩ (.pointer (some ⟨b, 0, none⟩)) := by
 obtain ⟨j, hj, hjs⟩ := Option.map_eq_some_iff.1 size_builder
 go_enter Tryz.func116, Tryz.ntmps116
 go_wp2
 rw [Lib.run_to_unsafe w ⟨b, 0, none⟩ Tryz.underlying61 Tryz.underlying182 hj (by rw [hjs]; decide) hsh (Nat.zero_lt_succ 1)]
 simp only [Result.andThen]
 rw [Oper.upon_value]
 go_wp2
 rw [run_callFunc_extern Tryz.func182 (by kernel_rfl) (by kernel_rfl) (by kernel_rfl) (e := Extern.AbiNoEscape.same) (by kernel_rfl)]
 rw [Lib.run_noEscape]
 simp only [Result.andThen]
 rw [Oper.upon_value]
 go_wp2
 rw [Lib.run_from_unsafe w ⟨b, 0, none⟩ Tryz.underlying182 Tryz.underlying61 hj hsh lies_builder]
 simp only [Result.andThen]
 rw [Oper.upon_value]
 go_wp2
 go_end0
 exact ⟨rfl, rfl⟩
def CheckPost (w : World) (B b : Nat) (bs : List Value) (e : Ending) (w' : World) : Prop := e = .returned (.tuple #[]) ∧ Lib.BuilderAtF 64 5 B b (.pointer (some ⟨b, 0, none⟩)) bs w' ∧ Below B w w' ∧ Lib.OthersKept 5 (some b) w w'
theorem check_any (B b : Nat) (bs : List Value) (w : World) (h : Lib.IsBuilderF 64 5 B b bs w) : Calls Tryz.prog 116 #[.pointer (some ⟨b, 0, none⟩)] w (CheckPost w B b bs) := by
 rcases h with h | h
 ·refine (check_fresh b w h.cell0 h.shape h.frozen0).mono ?_
  rintro e w' ⟨rfl, rfl⟩
  exact ⟨rfl, h.used _, (Below.refl B w).setCell (p := ⟨b, 0, none⟩) h.1 _, (Lib.OthersKept.refl _ _ w).setCell ⟨b, 0, none⟩ rfl _⟩
 ·refine (check_used b w h.cell0).mono ?_
  rintro e w' ⟨rfl, rfl⟩
  exact ⟨rfl, h, Below.refl B _, Lib.OthersKept.refl _ _ _⟩
set_option maxHeartbeats 2000000 in
set_option maxRecDepth 100000 in
theorem write_byte (B b : Nat) (l : List UInt8) (c : UInt8) (w : World) (h : Bld w B b l) (hlen : l.length + 1 ≤ 140737488355328) (hBw : B ≤ w.heap.size) :
  Calls Tryz.prog 56 #[.pointer (some ⟨b, 0, none⟩), .int .u8 c.toNat] w (WrotePost w B b (l ++ [c]) .nilIface) := by
 obtain ⟨i0, hi, hz0, hz1, hz2⟩ := info_parts info_byte
 obtain ⟨bs, hbs⟩ : ∃ x, Lib.byteCells l = x := ⟨_, rfl⟩
 have hbl : bs.length = l.length := by rw [← hbs, Lib.byteCells_length]
 unfold Bld at h
 rw [hbs] at h
 rw [← hbl] at hlen
 have HBS := Lib.hid hbs
 have H := Lib.hid h
 clear hbs hbl h
 obtain ⟨u, hu⟩ : ∃ x : Int, (c.toNat : Int) = x := ⟨_, rfl⟩
 rw [hu]
 have HU := Lib.hid hu
 clear hu
 go_enter Tryz.func56, Tryz.ntmps56
 go_wp2_with fail
 refine (check_any B b bs _ H.out).mono ?_
 rintro e w1 ⟨rfl, h1, hb1, hk1⟩
 obtain ⟨hB, v, hbk, hown, hne⟩ := h1
 have c0 : w1.cell? ⟨b, 0, none⟩ = some (.pointer (some ⟨b, 0, none⟩)) := by rw [Lib.cell_of_heap hbk]; rfl
 have c1 : w1.cell? ⟨b, 1, none⟩ = some v := by rw [Lib.cell_of_heap hbk]; rfl
 go_wp2_with (at_builtin; refine wpList_append_ownF _ rfl _ _ 62 rfl B 5 i0 (.int .u8 0) 1 1 Tryz.underlying62 hi hz0 hz1 hz2 rfl (by decide) _ _ _ rfl (hown.alloc _) ⟨w1.heap.size, 0, none⟩ 1 1 [.int .u8 u] rfl rfl ?c1 ?c2 ?c3 ?c4 ?c5 ?_)
 case c1 =>
  intro j u hj
  match j, hj with
  | 0, hj => simp at hj; subst hj; simp [Addr.add]
 case c2 => intro u hu; simp at hu; subst hu; rfl
 case c3 => unfold maxLen; omega
 case c4 => omega
 case c5 => have := hb1.size; simp; omega
 intro v' w2 hown' hgrow _
 have hlt : b < w1.heap.size := heap_lt hbk
 have hb2 : w2.heap[b]? = some (.cells #[.pointer (some ⟨b, 0, none⟩), v] 64 (0, 0)) := by
  rw [hgrow.block b (by simp; omega) (fun e => hne e.symm), Lib.alloc_old w1 _ b hlt]
  exact hbk
 have d0 : w2.cell? ⟨b, 0, none⟩ = some (.pointer (some ⟨b, 0, none⟩)) := by rw [Lib.cell_of_heap hb2]; rfl
 have d1 : w2.cell? ⟨b, 1, none⟩ = some v := by rw [Lib.cell_of_heap hb2]; rfl
 have f1 : w2.frozen? ⟨b, 1, none⟩ = false := Lib.frozen_of_heap hb2 1
 obtain ⟨g, cap, rfl⟩ : ∃ g cap, v' = .slice (some ⟨g, 0, none⟩) (bs.length + 1) cap := by
  rcases hown'.2 with ⟨_, h0⟩ | ⟨g, cap, cur, fz, hv, _⟩
  ·omega
  ·exact ⟨g, cap, hv⟩
 go_wp2
 go_ret
 refine ⟨rfl, ?_, ?_, ((hk1.alloc _).grown hgrow (Lib.ownsRowF_kind (hown.alloc _))).setCell ⟨b, 1, none⟩ rfl _⟩
 ·have e1 : Lib.byteCells (l ++ [c]) = bs ++ [.int .u8 u] := by rw [Lib.byteCells_append, HBS.out, ← HU.out]; rfl
  unfold Bld
  rw [e1]
  exact .inr (Lib.BuilderAtF.put (T := 64) (e := 5) hB hb2 (bs' := bs ++ [.int .u8 u]) (by simpa using hown') (by decide))
 ·exact ((hb1.alloc (by have := hb1.size; omega) _).grown hgrow (by have := hb1.size; simp; omega) (fun k hk => (hown.lt k hk).1)).setCell (p := ⟨b, 1, none⟩) hB _
set_option maxHeartbeats 2000000 in
set_option maxRecDepth 100000 in
theorem write_string (B b : Nat) (l t : List UInt8) (w : World) (h : Bld w B b l) (hlen : l.length + t.length ≤ 140737488355328) (hBw : B ≤ w.heap.size) :
  Calls Tryz.prog 54 #[.pointer (some ⟨b, 0, none⟩), .string (ba t)] w (WrotePost w B b (l ++ t) (.tuple #[.int .i64 (t.length : Nat), .nilIface])) := by
 obtain ⟨i0, hi, hz0, hz1, hz2⟩ := info_parts info_byte
 obtain ⟨bs, hbs⟩ : ∃ x, Lib.byteCells l = x := ⟨_, rfl⟩
 have hbl : bs.length = l.length := by rw [← hbs, Lib.byteCells_length]
 obtain ⟨s, hs⟩ : ∃ x, ba t = x := ⟨_, rfl⟩
 have hsz : s.size = t.length := by rw [← hs, ba_size]
 have hsc : Lib.strCells s = Lib.byteCells t := by rw [← hs]; rfl
 unfold Bld at h
 rw [hbs] at h
 rw [← hbl, ← hsz] at hlen
 rw [hs]
 have HBS := Lib.hid hbs
 have H := Lib.hid h
 have HSZ := Lib.hid hsz
 have HSC := Lib.hid hsc
 clear hbs hbl h hs hsz hsc
 go_enter Tryz.func54, Tryz.ntmps54
 go_wp2_with fail
 refine (check_any B b bs _ H.out).mono ?_
 rintro e w1 ⟨rfl, h1, hb1, hk1⟩
 obtain ⟨hB, v, hbk, hown, hne⟩ := h1
 have c0 : w1.cell? ⟨b, 0, none⟩ = some (.pointer (some ⟨b, 0, none⟩)) := by rw [Lib.cell_of_heap hbk]; rfl
 have c1 : w1.cell? ⟨b, 1, none⟩ = some v := by rw [Lib.cell_of_heap hbk]; rfl
 go_wp2_with (at_builtin; refine Lib.wpList_append_own_stringF _ rfl _ _ 62 9 rfl B 5 i0 Tryz.underlying62 Tryz.underlying9 hi hz0 hz1 hz2 _ _ _ rfl hown s rfl ?c3 ?c4 ?c5 ?_)
 case c3 => unfold maxLen; omega
 case c4 => omega
 case c5 => have := hb1.size; omega
 intro v' w2 hown' hgrow _
 have hlt : b < w1.heap.size := heap_lt hbk
 have hb2 : w2.heap[b]? = some (.cells #[.pointer (some ⟨b, 0, none⟩), v] 64 (0, 0)) := by
  rw [hgrow.block b hlt (fun e => hne e.symm)]
  exact hbk
 have d0 : w2.cell? ⟨b, 0, none⟩ = some (.pointer (some ⟨b, 0, none⟩)) := by rw [Lib.cell_of_heap hb2]; rfl
 have d1 : w2.cell? ⟨b, 1, none⟩ = some v := by rw [Lib.cell_of_heap hb2]; rfl
 have f1 : w2.frozen? ⟨b, 1, none⟩ = false := Lib.frozen_of_heap hb2 1
 obtain ⟨ao, n', cap, rfl⟩ : ∃ ao n' cap, v' = .slice ao n' cap := by
  rcases hown'.2 with ⟨hv, _⟩ | ⟨g, cap, cur, fz, hv, _⟩
  ·exact ⟨_, _, _, hv⟩
  ·exact ⟨_, _, _, hv⟩
 go_wp2
 go_ret2
 refine ⟨congrArg (fun n : Nat => Ending.returned (.tuple #[.int .i64 (n : Int), .nilIface])) HSZ.out, ?_, ?_, (hk1.grown hgrow (Lib.ownsRowF_kind hown)).setCell ⟨b, 1, none⟩ rfl _⟩
 ·have e1 : Lib.byteCells (l ++ t) = bs ++ Lib.strCells s := by rw [Lib.byteCells_append, HBS.out, HSC.out]
  unfold Bld
  rw [e1]
  exact .inr (Lib.BuilderAtF.put (T := 64) (e := 5) hB hb2 (bs' := bs ++ Lib.strCells s) (by simpa [Lib.strCells_length] using hown') (by decide))
 ·exact (hb1.grown hgrow (by have := hb1.size; omega) (fun k hk => (hown.lt k hk).1)).setCell (p := ⟨b, 1, none⟩) hB _
theorem bld_string (B b : Nat) (l : List UInt8) (w : World) (h : Bld w B b l) (hBw : B ≤ w.heap.size) :
  Calls Tryz.prog 57 #[.pointer (some ⟨b, 0, none⟩)] w (WrotePost w B b l (.string (ba l))) :=
 (Tryz.Builder_String_any_k B b l w h hBw).mono fun e w' ⟨he, h1, h2, h3⟩ => ⟨he, h1, h2, h3⟩
end Go.Proofs.YthidbmeaccpjdaaGreatDoor
end
section
namespace Go.Proofs.YthidbmeaccpjdaaGreatDoor
open Go.RowKit
set_option linter.unusedVariables false
def JoinRel (w : World) (ts : List Tok) (k : Nat) (wr : World) : Prop := Bld wr w.heap.size w.heap.size (joinP (ts.take k)) ∧ Below w.heap.size w wr
theorem join_step (ts : List Tok) (k : Nat) (hk : k < ts.length) : joinP (ts.take (k + 1)) = joinP (ts.take k) ++ ts[k].text := by
 rw [List.take_succ_eq_append_getElem hk]
 unfold joinP
 rw [List.flatMap_append]
 simp
theorem join_le (ts : List Tok) (k : Nat) : (joinP (ts.take k)).length ≤ (joinP ts).length := by
 have h : joinP ts = joinP (ts.take k) ++ joinP (ts.drop k) := by
  unfold joinP
  rw [← List.flatMap_append, List.take_append_drop]
 rw [h, List.length_append]
 omega
set_option maxRecDepth 100000 in
set_option maxHeartbeats 4000000 in
theorem tjoin_any (ts : List Tok) (A : Option Addr) (n c : Nat) (w : World) (hT : Toks w w.heap.size A n ts) (hn : n ≤ 1000000000) (hj : (joinP ts).length ≤ 1000000000) :
  Calls Tryz.prog 152 #[.slice A n c] w fun e w' => e = .returned (.string (ba (joinP ts))) ∧ Below w.heap.size w w' := by
 go_enter Tryz.func152, Tryz.ntmps152
 have HT := Lib.hid hT
 obtain rfl : n = ts.length := hT.1
 obtain ⟨n, hn2⟩ : ∃ n, ts.length = n := ⟨_, rfl⟩
 have HN := Lib.hid hn2
 rw [hn2] at hn ⊢
 clear hT hn2
 have HB0 := Lib.hid (bld_new w)
 go_wp2
 go_loopw [8] (fun i wr => ∃ k : Nat, k ≤ n ∧ i = .int .i64 (k : Int) ∧ Hid (JoinRel w ts k wr)) (fun i _ => n - (intOf i).toNat)
 case atStart => exact ⟨0, Nat.zero_le _, rfl, HB0.out, (Below.refl _ _).alloc (Nat.le_refl _) _⟩
 case round =>
  obtain ⟨k, hk, rfl, HR⟩ := hrel
  have hsz := HR.out.2.size
  by_cases hlt : k < n
  ·have hk2 : (k : Int) < n := by omega
   have hkl : k < ts.length := by rw [HN.out]; exact hlt
   obtain ⟨ad, rfl, hbl, c0, c1, c2⟩ := (HT.out.below HR.out.2).2 k hkl
   have HP := Lib.hid (join_step ts k hkl)
   have hle := join_le ts (k + 1)
   rw [HP.out] at hle
   obtain ⟨t, ht⟩ : ∃ t, ts[k] = t := ⟨_, rfl⟩
   rw [ht] at c0 c1 HP hle
   have hlen : (joinP (ts.take k)).length + t.text.length ≤ 140737488355328 := by
    rw [List.length_append] at hle
    omega
   have HLEN := Lib.hid hlen
   clear ht c2 hle hlen
   have HB1 := Lib.hid (HR.out.1.alloc (.cells #[.int .i64 t.kind, .string (ba t.text)] 94))
   have hB : w.heap.size ≤ (wr.alloc (.cells #[.int .i64 t.kind, .string (ba t.text)] 94)).heap.size := by simp; omega
   have HBEL := Lib.hid (HR.out.2.alloc hsz (.cells #[.int .i64 t.kind, .string (ba t.text)] 94))
   go_wp2_with fail
   refine (write_string _ _ _ t.text (wr.alloc (.cells #[.int .i64 t.kind, .string (ba t.text)] 94)) HB1.out HLEN.out hB).mono ?_
   rintro e w' ⟨rfl, hW⟩
   have HW := Lib.hid hW
   clear hW
   go_wp2
   go_roundw
   case rel =>
    refine ⟨k + 1, by omega, by go_num, ?_, HBEL.out.trans HW.out.bel⟩
    rw [HP.out]
    exact HW.out.bld
   case measure => simp [intOf] <;> omega
  ·obtain rfl : k = n := by omega
   go_wp2_with fail
   refine (bld_string _ _ _ wr HR.out.1 hsz).mono ?_
   rintro e w' ⟨rfl, hW⟩
   have HW := Lib.hid hW
   clear hW
   go_wp2
   go_ret
   refine ⟨?_, HR.out.2.trans HW.out.bel⟩
   rw [List.take_of_length_le (by rw [HN.out]; exact Nat.le_refl _)]
   rfl
end Go.Proofs.YthidbmeaccpjdaaGreatDoor
end
section
namespace Go.Proofs.YthidbmeaccpjdaaGreatDoor
set_option linter.unusedVariables false
def unescF : Bool → List UInt8 → List UInt8
 | _, [] => []
 | true, c :: r => c :: unescF false r
 | false, c :: r => if c = 92 then unescF true r else if c = 10 ∨ c = 13 then unescF false r else c :: unescF false r
theorem unescF_eq : ∀ l, unescF false l = unescP l
 | [] => by unfold unescF unescP; rfl
 | [c] => by
  unfold unescP
  show (if c = 92 then unescF true [] else if c = 10 ∨ c = 13 then unescF false [] else c :: unescF false []) = _
  rw [show unescF true [] = [] from rfl, show unescF false [] = [] from rfl]
 | c :: x :: r => by
  have h1 := unescF_eq r
  have h2 := unescF_eq (x :: r)
  unfold unescP
  show (if c = 92 then unescF true (x :: r) else if c = 10 ∨ c = 13 then unescF false (x :: r) else c :: unescF false (x :: r)) = _
  rw [show unescF true (x :: r) = x :: unescF false r from rfl, h1, h2]
end Go.Proofs.YthidbmeaccpjdaaGreatDoor
end
