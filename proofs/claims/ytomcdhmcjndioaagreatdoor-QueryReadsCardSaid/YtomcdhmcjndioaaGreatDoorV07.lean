/- A row of strings of the call's own, and append of one string. append of a row of strings onto a slice of the call's own. A query's own words in memory: one struct, its kids a slice. Rows of pouch/api.Query in memory: read, owned, grown by one or by a row (printed by gen_row.py). A query's tree in memory. Layer 37: the contract of Same. Layer 37: the contract of field. Layer 37: the contract of quoted. Layer 32: a row of words of the call's own, and append of one word. -/
import Derived.Deep.DeepCutAuto
import Derived.Test.YtomcdhmcjndioaaGreatDoorV01
import Derived.Test.YtomcdhmcjndioaaGreatDoorV03
import Derived.Test.YtomcdhmcjndioaaGreatDoorV05
import Derived.Test.YtomcdhmcjndioaaGreatDoorV02
section
namespace Go.Proofs.YtomcdhmcjndioaaGreatDoor
open Go.RowKit
set_option linter.unusedVariables false

theorem str_info : (Tryz.prog.info? 9).map (fun i => (i.zero, i.size, i.bytes)) = some (some (.string ByteArray.empty), 1, 16) := by kernel_rfl
def sv (l : List (List UInt8)) : List Value := l.map fun s => .string (ba s)
theorem sv_snoc (l : List (List UInt8)) (s : List UInt8) : sv (l ++ [s]) = sv l ++ [.string (ba s)] := by simp [sv]
/-- v owns the strings ss, in a row of its own from B on. -/
def OwnStrs (w : World) (B : Nat) (v : Value) (ss : List (List UInt8)) : Prop := w.ownsRow B 9 1 v ss.length (sv ss)
theorem OwnStrs.nil_ (w : World) (B : Nat) : OwnStrs w B (.slice none 0 0) [] := World.ownsRow_nil _ _ _ _
theorem OwnStrs.below {w w' : World} {B : Nat} {v : Value} {ss : List (List UInt8)} (h : OwnStrs w B v ss) (hb : Below w.heap.size w w') : OwnStrs w' B v ss :=
  ownsRow_block h fun b e => hb.block b (h.lt b e).2
theorem OwnStrs.block {w w' : World} {B : Nat} {v : Value} {ss : List (List UInt8)} (h : OwnStrs w B v ss) (hb : ∀ b, v.ownBlock = some b → w'.heap[b]? = w.heap[b]?) : OwnStrs w' B v ss := ownsRow_block h hb
theorem OwnStrs.more {w : World} {B B' : Nat} {v : Value} {ss : List (List UInt8)} (h : OwnStrs w B v ss) (hB : B' ≤ B) : OwnStrs w B' v ss := by
  refine ⟨h.1, ?_⟩
  rcases h.2 with h | ⟨g, cap, cur, h1, h2, h3⟩
  · exact .inl h
  · exact .inr ⟨g, cap, cur, h1, by omega, h3⟩
/-- A run of strings in memory. -/
def Strs (w : World) (B : Nat) (A : Option Addr) (n : Nat) (ss : List (List UInt8)) : Prop := n = ss.length ∧ Run w B A (sv ss)
theorem OwnStrs.strs {w : World} {B : Nat} {v : Value} {ss : List (List UInt8)} (h : OwnStrs w B v ss) : ∃ A c, v = .slice A ss.length c ∧ ss.length ≤ c ∧ c ≤ maxLen ∧ Strs w w.heap.size A ss.length ss := by
  have h0 := h
  rcases h.2 with ⟨rfl, hn⟩ | ⟨g, cap, cur, rfl, hb, hg, h1, h2, h3, h4⟩
  · have : ss = [] := List.eq_nil_of_length_eq_zero hn
    subst this
    exact ⟨none, 0, rfl, Nat.le_refl _, by simp, rfl, .inl rfl⟩
  · exact ⟨_, cap, rfl, h1, h2, rfl, Run.of_own h0⟩
/-- append of one string onto a slice of the call's own. -/
theorem wpList_pushStr {ops : Array Oper} {rest : List Oper} {o : Oper} {a : Act} {W : World} {Q : Exit → Act → World → Prop} {B : Nat} {s : List UInt8} {v : Value} {ss : List (List UInt8)} (hown : OwnStrs W B v ss) (hB : B ≤ W.heap.size)
    (hlen : ss.length < 1099511627776) (hgd : o.guard = none) (x y : Operand) (t : TypeId) (c : Nat)
    (ho : o.op = .call { callee := .builtin .append, args := #[x, y], argTypes := #[t, t] }) (ht : Tryz.prog.underlying t = some (.slice 9))
    (hs : a.eval x = v) (hx : a.eval y = .slice (some ⟨W.heap.size, 0, none⟩) 1 c)
    (h : ∀ v' w', OwnStrs w' B v' (ss ++ [s]) → W.grownBy w' v.ownBlock → (v'.ownBlock = v.ownBlock ∨ ∃ k, v'.ownBlock = some k ∧ W.heap.size ≤ k) → wpList Tryz.prog ops Q rest (a.put o.dst v') w') :
    wpList Tryz.prog ops Q (o :: rest) a (W.alloc (.cells #[.string (ba s)] 9)) := by
  obtain ⟨i0, hi, hz0, hz1, hz2⟩ := info_parts str_info
  refine wpList_append_own_at _ hgd x y t ho B 9 i0 _ 1 16 ht hi hz0 hz1 hz2 rfl (by omega) v ss.length (sv ss) hs (World.ownsRow.alloc hown _) ⟨W.heap.size, 0, none⟩ 1 c [.string (ba s)] hx rfl (cell_one_new _ _ _) ?_ (by simp only [maxLen]; omega) (by omega) (by simp; omega) ?_
  · intro u hu; simp at hu; subst hu; rfl
  · intro v' w' h1 h2 _ h4
    refine h v' w' ?_ ?_ ?_
    · show w'.ownsRow B _ 1 v' _ _
      rw [sv_snoc]; simpa using h1
    · have h5 := World.grownBy_alloc W (.cells #[.string (ba s)] 9) v.ownBlock
      exact ⟨h2.os.trans h5.os, h2.tape.trans h5.tape, h2.output.trans h5.output, Nat.le_trans h5.size h2.size, fun k hk hne => (h2.block k (by simp; omega) hne).trans (h5.block k hk hne)⟩
    · rcases h4 with h4 | h4
      · exact .inl h4
      · exact .inr ⟨_, h4, by simp⟩
end Go.Proofs.YtomcdhmcjndioaaGreatDoor
end
section
namespace Go.Proofs.YtomcdhmcjndioaaGreatDoor
open Go.RowKit
set_option linter.unusedVariables false

theorem run_noneStr (w : World) (B : Nat) (t ty : TypeId) (ht : Tryz.prog.underlying t = some (.slice 9)) (v : Value) (acc : List (List UInt8)) (hown : OwnStrs w B v acc) (c : Nat) : (Builtin.append_ #[t, t] ty #[v, .slice none 0 c]).run Tryz.prog w = .ok v w := by
  obtain ⟨i0, hi, hz0, hz1, hz2⟩ := info_parts str_info
  rcases hown.2 with ⟨rfl, _⟩ | ⟨g, cap, cur, rfl, _, _, hnc, _⟩
  · simp [Builtin.append_, run_underlying ht, sizeOf, typeInfo, hi, Builtin.lenOf, Builtin.firstCells]
  · simp [Builtin.append_, run_underlying ht, sizeOf, typeInfo, hi, Builtin.lenOf, Builtin.firstCells, hnc, storeCells]
set_option maxRecDepth 100000 in
theorem run_joinStr (w : World) (B : Nat) (t ty : TypeId) (ht : Tryz.prog.underlying t = some (.slice 9)) (v : Value) (acc : List (List UInt8)) (hown : OwnStrs w B v acc) (hB : B ≤ w.heap.size)
    (D : Nat) (A : Option Addr) (m c : Nat) (l : List (List UInt8)) (hr : Strs w D A m l) (hlen : acc.length + m ≤ 1000000000) :
    ∃ v' w', (Builtin.append_ #[t, t] ty #[v, .slice A m c]).run Tryz.prog w = .ok v' w' ∧ OwnStrs w' B v' (acc ++ l) ∧ w.grownBy w' v.ownBlock ∧ (v'.ownBlock = v.ownBlock ∨ ∃ k, v'.ownBlock = some k ∧ w.heap.size ≤ k) := by
  obtain ⟨i0, hi, hz0, hz1, hz2⟩ := info_parts str_info
  have hml : l.length = m := hr.1.symm
  rcases A with _ | ad
  · have hl : l = [] := by
      rcases hr.2 with h | ⟨ad, e, _⟩
      · unfold sv at h; exact List.map_eq_nil_iff.1 h
      · cases e
    subst hl
    obtain rfl : m = 0 := hml.symm
    exact ⟨v, w, run_noneStr w B t ty ht v acc hown c, by simpa using hown, World.grownBy.refl w _, .inl rfl⟩
  · have hcells : ∀ j u, (sv l)[j]? = some u → w.cell? (ad.add j) = some u := fun j u hu => by
      rcases hr.2 with h | ⟨ad', e, _, hc⟩
      · rw [h] at hu; simp at hu
      · injection e with e
        subst e
        exact hc j u hu
    have hsl : (sv l).length = m := by unfold sv; rw [List.length_map, hml]
    obtain ⟨v', w', hrun, h2, h3, _, h5⟩ := run_append_own_at (P := Tryz.prog) w B t ty 9 i0 _ 1 16 ht hi hz0 hz1 hz2 rfl (by omega) v acc.length (sv acc) hown ad m c (sv l) (by rw [hsl]; omega) hcells (fun u hu => by obtain ⟨s, _, rfl⟩ := List.mem_map.1 hu; rfl) (by simp only [maxLen]; omega) (by omega) hB
    refine ⟨v', w', hrun, ?_, h3, ?_⟩
    · show w'.ownsRow B _ 1 v' _ _
      rw [List.length_append, hml, show sv (acc ++ l) = sv acc ++ sv l from List.map_append]
      exact h2
    · rcases h5 with h | h
      · exact .inl h
      · exact .inr ⟨_, h, Nat.le_refl _⟩
theorem wpList_joinStr {ops : Array Oper} {rest : List Oper} {o : Oper} {a : Act} {w : World} {Q : Exit → Act → World → Prop} {B : Nat} {v : Value} {acc : List (List UInt8)} (hown : OwnStrs w B v acc) (hB : B ≤ w.heap.size)
    {D : Nat} {A : Option Addr} {m : Nat} {l : List (List UInt8)} (hr : Strs w D A m l) (hlen : acc.length + m ≤ 1000000000) (hgd : o.guard = none) (s x : Operand) (t : TypeId) (c : Nat)
    (ho : o.op = .call { callee := .builtin .append, args := #[s, x], argTypes := #[t, t] }) (ht : Tryz.prog.underlying t = some (.slice 9)) (hs : a.eval s = v) (hx : a.eval x = .slice A m c)
    (h : ∀ v' w', OwnStrs w' B v' (acc ++ l) → w.grownBy w' v.ownBlock → (v'.ownBlock = v.ownBlock ∨ ∃ k, v'.ownBlock = some k ∧ w.heap.size ≤ k) → wpList Tryz.prog ops Q rest (a.put o.dst v') w') : wpList Tryz.prog ops Q (o :: rest) a w := by
  refine wpList_plain hgd fun K hK => ?_
  obtain ⟨v', w', hrun, h2, h3, h4⟩ := run_joinStr w B t o.type ht v acc hown hB D A m c l hr hlen
  unfold Oper.wp execOp
  simp only [ho, resolve, invoke, builtin, Sem.run_bind, Sem.run_pure, Result.andThen_ok, List.map_toArray, List.map_cons, List.map_nil, hs, hx, hrun]
  exact hK _ _ (h v' w' h2 h3 h4)
end Go.Proofs.YtomcdhmcjndioaaGreatDoor
end
section
namespace Go.Proofs.YtomcdhmcjndioaaGreatDoor
open Go.RowKit
set_option linter.unusedVariables false

abbrev Sli := Option Addr × Nat × Nat
structure RawQ where
  op : Int
  fld : Int
  text : List UInt8
  n : Int
  kids : Sli
def RawQ.val (r : RawQ) : Value := .agg #[.int .i64 r.op, .int .i64 r.fld, .string (ba r.text), .int .i64 r.n, .slice r.kids.1 r.kids.2.1 r.kids.2.2]
def noRaw : RawQ := ⟨0, 0, [], 0, (none, 0, 0)⟩
end Go.Proofs.YtomcdhmcjndioaaGreatDoor
end
section
namespace Go.Proofs.YtomcdhmcjndioaaGreatDoor
open Go.RowKit
set_option linter.unusedVariables false

theorem raw_info : (Tryz.prog.info? 25).map (fun i => (i.zero, i.size, i.bytes)) = some (some (.agg #[.int .i64 0, .int .i64 0, .string ByteArray.empty, .int .i64 0, .slice none 0 0]), 5, 64) := by kernel_rfl
def rawCells (t : RawQ) : List Value := [.int .i64 (t.op), .int .i64 (t.fld), .string (ba (t.text)), .int .i64 (t.n), .slice (t.kids).1 (t.kids).2.1 (t.kids).2.2]
def RawOk (t : RawQ) : Prop := (-9223372036854775808 ≤ t.op ∧ t.op ≤ 9223372036854775807) ∧ (-9223372036854775808 ≤ t.fld ∧ t.fld ≤ 9223372036854775807) ∧ (-9223372036854775808 ≤ t.n ∧ t.n ≤ 9223372036854775807)
/-- 'A' with 'n' places reads as the elements 'ts', in memory below B. -/
def Raws (w : World) (B : Nat) (A : Option Addr) (n : Nat) (ts : List (RawQ)) : Prop :=
  n = ts.length ∧ ∀ k (hk : k < ts.length), ∃ ad, A = some ad ∧ (ad.add (k * 5)).block < B ∧ w.cell? (ad.add (k * 5)) = some (.int .i64 (ts[k].op)) ∧ w.cell? ⟨(ad.add (k * 5)).block, (ad.add (k * 5)).off + 1, none⟩ = some (.int .i64 (ts[k].fld)) ∧ w.cell? ⟨(ad.add (k * 5)).block, (ad.add (k * 5)).off + 2, none⟩ = some (.string (ba (ts[k].text))) ∧ w.cell? ⟨(ad.add (k * 5)).block, (ad.add (k * 5)).off + 3, none⟩ = some (.int .i64 (ts[k].n)) ∧ w.cell? ⟨(ad.add (k * 5)).block, (ad.add (k * 5)).off + 4, none⟩ = some (.slice (ts[k].kids).1 (ts[k].kids).2.1 (ts[k].kids).2.2) ∧ RawOk ts[k]
section
variable {w w' : World} {B B' n : Nat} {A : Option Addr} {ts : List (RawQ)}
theorem Raws.below (h : Raws w B A n ts) (hb : Below B w w') : Raws w' B A n ts := by
  refine ⟨h.1, fun k hk => ?_⟩
  obtain ⟨ad, e, h1, c0, c1, c2, c3, c4, h5⟩ := h.2 k hk
  exact ⟨ad, e, h1, (hb.cell h1).trans c0, (hb.cell (p := ⟨(ad.add (k * 5)).block, _, none⟩) h1).trans c1, (hb.cell (p := ⟨(ad.add (k * 5)).block, _, none⟩) h1).trans c2, (hb.cell (p := ⟨(ad.add (k * 5)).block, _, none⟩) h1).trans c3, (hb.cell (p := ⟨(ad.add (k * 5)).block, _, none⟩) h1).trans c4, h5⟩
theorem Raws.more (h : Raws w B A n ts) (hB : B ≤ B') : Raws w B' A n ts := by
  refine ⟨h.1, fun k hk => ?_⟩
  obtain ⟨ad, e, h1, h2⟩ := h.2 k hk
  exact ⟨ad, e, Nat.lt_of_lt_of_le h1 hB, h2⟩
theorem Raws.nil_ : Raws w B A 0 [] := ⟨rfl, fun k hk => by simp at hk⟩
theorem Raws.len (h : Raws w B A n ts) : ts.length = n := h.1.symm
theorem Raws.cutA (h : Raws w B A n ts) (k : Nat) (hk : k ≤ n) : Raws w B A k (ts.take k) := by
  refine ⟨by rw [List.length_take, h.len]; omega, fun j hj => ?_⟩
  rw [List.length_take] at hj
  have := h.2 j (by omega)
  rw [List.getElem_take]
  exact this
theorem Raws.cutB {ad : Addr} (h : Raws w B (some ad) n ts) (k : Nat) (hk : k ≤ n) : Raws w B (some (ad.add (k * 5))) (n - k) (ts.drop k) := by
  refine ⟨by rw [List.length_drop, h.len], fun j hj => ?_⟩
  rw [List.length_drop] at hj
  obtain ⟨ad', e, r⟩ := h.2 (k + j) (by omega)
  injection e with e
  subst e
  refine ⟨_, rfl, ?_⟩
  rw [add_add', show k * 5 + j * 5 = (k + j) * 5 by omega, List.getElem_drop]
  exact r
end
/-- v owns the elements ts, in a row of its own from B on. -/
structure OwnRaws (w : World) (B : Nat) (v : Value) (ts : List (RawQ)) : Prop where
  row : w.ownsRow B 25 5 v ts.length (ts.flatMap rawCells)
  each : ∀ t, t ∈ ts → RawOk t
theorem OwnRaws.nil_ (w : World) (B : Nat) : OwnRaws w B (.slice none 0 0) [] := ⟨World.ownsRow_nil _ _ _ _, fun t h => by cases h⟩
theorem OwnRaws.below {w w' : World} {B : Nat} {v : Value} {ts : List (RawQ)} (h : OwnRaws w B v ts) (hb : Below w.heap.size w w') : OwnRaws w' B v ts :=
  ⟨ownsRow_block h.row fun b e => hb.block b (h.row.lt b e).2, h.each⟩
theorem OwnRaws.block {w w' : World} {B : Nat} {v : Value} {ts : List (RawQ)} (h : OwnRaws w B v ts) (hb : ∀ b, v.ownBlock = some b → w'.heap[b]? = w.heap[b]?) : OwnRaws w' B v ts := ⟨ownsRow_block h.row hb, h.each⟩
theorem OwnRaws.more {w : World} {B B' : Nat} {v : Value} {ts : List (RawQ)} (h : OwnRaws w B v ts) (hB : B' ≤ B) : OwnRaws w B' v ts := by
  obtain ⟨⟨h0, h1⟩, h2⟩ := h
  refine ⟨⟨h0, ?_⟩, h2⟩
  rcases h1 with h1 | ⟨g, cap, cur, e, hb, r⟩
  · exact .inl h1
  · exact .inr ⟨g, cap, cur, e, by omega, r⟩
theorem raw_len (ts : List (RawQ)) : (ts.flatMap rawCells).length = ts.length * 5 := by induction ts with | nil => rfl | cons a r ih => simp [rawCells] at ih ⊢; omega
theorem raw_get : ∀ (ts : List (RawQ)) j (hj : j < ts.length) i (hi : i < 5), (ts.flatMap rawCells)[j * 5 + i]? = (rawCells ts[j])[i]? := fun ts => by
  induction ts with
  | nil => intro j hj; simp at hj
  | cons a r ih =>
    intro j hj i hi
    cases j with
    | zero =>
      simp only [List.flatMap_cons, List.getElem_cons_zero, Nat.zero_mul, Nat.zero_add]
      rw [List.getElem?_append_left (by simp [rawCells]; omega)]
    | succ j =>
      have := ih j (by simpa using hj) i hi
      simp only [List.flatMap_cons, List.getElem_cons_succ]
      rw [List.getElem?_append_right (by simp [rawCells]; omega), show (j + 1) * 5 + i - (rawCells a).length = j * 5 + i by simp [rawCells]; omega]
      exact this
theorem raw_addS (a : Addr) {i : Nat} (hi : i ≠ 0) : a.add i = ⟨a.block, a.off + i, none⟩ := by unfold Addr.add; rw [if_neg hi]
/-- Elements that a slice owns, read. -/
theorem OwnRaws.reads {w : World} {B : Nat} {v : Value} {ts : List (RawQ)} (h : OwnRaws w B v ts) : ∃ A c, v = .slice A ts.length c ∧ ts.length ≤ c ∧ c ≤ maxLen ∧ Raws w w.heap.size A ts.length ts := by
  have h0 := h.row
  rcases h0.2 with ⟨rfl, hn⟩ | ⟨g, cap, cur, rfl, hb, hg, q1, q2, q3⟩
  · have : ts = [] := List.eq_nil_of_length_eq_zero hn
    subst this
    exact ⟨none, 0, rfl, Nat.le_refl _, by simp, Raws.nil_⟩
  · refine ⟨_, cap, rfl, q1, q2, rfl, fun k hk => ?_⟩
    have hc : ∀ i u, i < 5 → (rawCells ts[k])[i]? = some u → w.cell? ⟨g, k * 5 + i, none⟩ = some u := fun i u hi hu => by
      have := h0.cells (g := g) rfl (k * 5 + i) u (by rw [raw_get ts k hk i hi]; exact hu)
      unfold Addr.add at this
      by_cases e0 : k * 5 + i = 0
      · rw [if_pos e0] at this; rw [e0]; exact this
      · rw [if_neg e0] at this; rw [Nat.zero_add] at this; exact this
    have e1 : (Addr.add ⟨g, 0, none⟩ (k * 5)) = ⟨g, k * 5, none⟩ := by
      unfold Addr.add
      split
      · rename_i e0; rw [e0]
      · rw [Nat.zero_add]
    refine ⟨⟨g, 0, none⟩, rfl, by rw [add_block]; exact heap_lt hg, ?_, ?_, ?_, ?_, ?_, h.each _ (List.getElem_mem hk)⟩
    · rw [e1]; exact hc 0 _ (by omega) rfl
    · rw [e1]; exact hc 1 _ (by omega) rfl
    · rw [e1]; exact hc 2 _ (by omega) rfl
    · rw [e1]; exact hc 3 _ (by omega) rfl
    · rw [e1]; exact hc 4 _ (by omega) rfl
theorem OwnRaws.unfrozen {w : World} {B n c : Nat} {ad : Addr} {ts : List (RawQ)} (h : OwnRaws w B (.slice (some ad) n c) ts) (i : Nat) : w.frozen? ⟨ad.block, i, none⟩ = false ∧ ad.block < w.heap.size := by
  rcases h.row.2 with ⟨e, _⟩ | ⟨g', cap, cur, e, _, hg, _⟩
  · cases e
  · injection e with e
    injection e with e
    subst e
    exact ⟨by simp [World.frozen?, hg], heap_lt hg⟩
theorem raw_one (l : List (RawQ)) : ∀ u ∈ l.flatMap rawCells, u.oneCell' = true := by
  intro u hu
  obtain ⟨t, _, ht⟩ := List.mem_flatMap.1 hu
  simp only [rawCells, List.mem_cons, List.not_mem_nil, or_false] at ht
  rcases ht with rfl | rfl | rfl | rfl | rfl <;> rfl
set_option maxRecDepth 100000 in
theorem run_pushRaw {W : World} {B : Nat} {v : Value} {ts : List (RawQ)} {x0 : Int} {x1 : Int} {x2 : List UInt8} {x3 : Int} {x4 : Sli} (hT : OwnRaws W B v ts) (hB : B ≤ W.heap.size) (hf : RawOk (⟨x0, x1, x2, x3, x4⟩ : RawQ)) (hlen : ts.length ≤ 1000000000) (c : Nat) (ty : TypeId) :
    ∃ v' w', (Builtin.append_ #[23, 23] ty #[v, .slice (some ⟨W.heap.size, 0, none⟩) 1 c]).run Tryz.prog (W.alloc (.cells #[.int .i64 x0, .int .i64 x1, .string (ba x2), .int .i64 x3, .slice x4.1 x4.2.1 x4.2.2] 25)) = .ok v' w' ∧ OwnRaws w' B v' (ts ++ [(⟨x0, x1, x2, x3, x4⟩ : RawQ)]) ∧ W.grownBy w' v.ownBlock := by
  obtain ⟨i0, hi, hz0, hz1, hz2⟩ := info_parts raw_info
  obtain ⟨v', w', hrun, h1, h2, _, h4⟩ := run_append_own_at (P := Tryz.prog) (W.alloc (.cells #[.int .i64 x0, .int .i64 x1, .string (ba x2), .int .i64 x3, .slice x4.1 x4.2.1 x4.2.2] 25)) B 23 ty 25 i0 _ 5 64 Tryz.underlying23 hi hz0 hz1 hz2 rfl (by omega) v ts.length (ts.flatMap rawCells) (World.ownsRow.alloc hT.row _) ⟨W.heap.size, 0, none⟩ 1 c (rawCells (⟨x0, x1, x2, x3, x4⟩ : RawQ)) rfl (World.news_of_block (MapKept.heap_alloc W _).1) (fun u hu => raw_one [(⟨x0, x1, x2, x3, x4⟩ : RawQ)] u (by simpa using hu)) (by simp only [maxLen]; omega) (by omega) (by simp; omega)
  have h5 := World.grownBy_alloc W (.cells #[.int .i64 x0, .int .i64 x1, .string (ba x2), .int .i64 x3, .slice x4.1 x4.2.1 x4.2.2] 25) v.ownBlock
  refine ⟨v', w', hrun, ⟨by simpa using h1, fun t ht => ?_⟩, ⟨h2.os.trans h5.os, h2.tape.trans h5.tape, h2.output.trans h5.output, Nat.le_trans h5.size h2.size, fun k hk hne => (h2.block k (by simp; omega) hne).trans (h5.block k hk hne)⟩⟩
  rcases List.mem_append.1 ht with ht | ht
  · exact hT.each t ht
  · rw [List.mem_singleton] at ht; subst ht; exact hf
theorem wp_pushRaw {o : Oper} {a : Act} {K : Act → World → Prop} {W : World} {Q : Exit → Act → World → Prop} {B : Nat} {v : Value} {ts : List (RawQ)} {x0 : Int} {x1 : Int} {x2 : List UInt8} {x3 : Int} {x4 : Sli} (hT : OwnRaws W B v ts) (hB : B ≤ W.heap.size) (hf : RawOk (⟨x0, x1, x2, x3, x4⟩ : RawQ))
    (hlen : ts.length ≤ 1000000000) (s y : Operand) (c : Nat)
    (ho : o.op = .call { callee := .builtin .append, args := #[s, y], argTypes := #[23, 23] }) (hs : a.eval s = v) (hx : a.eval y = .slice (some ⟨W.heap.size, 0, none⟩) 1 c)
    (h : ∀ v' w', OwnRaws w' B v' (ts ++ [(⟨x0, x1, x2, x3, x4⟩ : RawQ)]) → W.grownBy w' v.ownBlock → K (a.put o.dst v') w') : o.wp Tryz.prog a (W.alloc (.cells #[.int .i64 x0, .int .i64 x1, .string (ba x2), .int .i64 x3, .slice x4.1 x4.2.1 x4.2.2] 25)) K Q := by
  obtain ⟨v', w', hrun, h1, h2⟩ := run_pushRaw hT hB hf hlen c o.type
  unfold Oper.wp execOp
  simp only [ho, resolve, invoke, builtin, Sem.run_bind, Sem.run_pure, Result.andThen_ok, List.map_toArray, List.map_cons, List.map_nil, hs, hx, hrun]
  exact h v' w' h1 h2
theorem step_pushRaw {ops : Array Oper} {o : Oper} {a : Act} {W : World} {K : Act → World → Prop} {Q : Exit → Act → World → Prop} {E : Prop} {B : Nat} {v : Value} {ts : List (RawQ)} {x0 : Int} {x1 : Int} {x2 : List UInt8} {x3 : Int} {x4 : Sli} (hT : OwnRaws W B v ts) (hB : B ≤ W.heap.size) (hf : RawOk (⟨x0, x1, x2, x3, x4⟩ : RawQ))
    (hlen : ts.length ≤ 1000000000) (hgd : o.guard = none) (s y : Operand) (c : Nat)
    (ho : o.op = .call { callee := .builtin .append, args := #[s, y], argTypes := #[23, 23] }) (hs : a.eval s = v) (hx : a.eval y = .slice (some ⟨W.heap.size, 0, none⟩) 1 c)
    (h : ∀ v' w', OwnRaws w' B v' (ts ++ [(⟨x0, x1, x2, x3, x4⟩ : RawQ)]) → W.grownBy w' v.ownBlock → K (a.put o.dst v') w') :
    if Region.wanted o (yielded ops a.tmps) = true then Oper.wp Tryz.prog o a (W.alloc (.cells #[.int .i64 x0, .int .i64 x1, .string (ba x2), .int .i64 x3, .slice x4.1 x4.2.1 x4.2.2] 25)) K Q else E := by
  have hw : Region.wanted o (yielded ops a.tmps) = true := by simp [Region.wanted, hgd]
  rw [if_pos hw]
  exact wp_pushRaw hT hB hf hlen s y c ho hs hx h
theorem wpList_pushRaw {ops : Array Oper} {rest : List Oper} {o : Oper} {a : Act} {W : World} {Q : Exit → Act → World → Prop} {B : Nat} {v : Value} {ts : List (RawQ)} {x0 : Int} {x1 : Int} {x2 : List UInt8} {x3 : Int} {x4 : Sli} (hT : OwnRaws W B v ts) (hB : B ≤ W.heap.size) (hf : RawOk (⟨x0, x1, x2, x3, x4⟩ : RawQ))
    (hlen : ts.length ≤ 1000000000) (hgd : o.guard = none) (s y : Operand) (c : Nat)
    (ho : o.op = .call { callee := .builtin .append, args := #[s, y], argTypes := #[23, 23] }) (hs : a.eval s = v) (hx : a.eval y = .slice (some ⟨W.heap.size, 0, none⟩) 1 c)
    (h : ∀ v' w', OwnRaws w' B v' (ts ++ [(⟨x0, x1, x2, x3, x4⟩ : RawQ)]) → W.grownBy w' v.ownBlock → wpList Tryz.prog ops Q rest (a.put o.dst v') w') :
    wpList Tryz.prog ops Q (o :: rest) a (W.alloc (.cells #[.int .i64 x0, .int .i64 x1, .string (ba x2), .int .i64 x3, .slice x4.1 x4.2.1 x4.2.2] 25)) :=
  wpList_plain hgd fun _ hK => wp_pushRaw hT hB hf hlen s y c ho hs hx fun v' w' h2 h3 => hK _ _ (h v' w' h2 h3)
theorem Raws.cells {w : World} {B m : Nat} {ad : Addr} {l : List (RawQ)} (h : Raws w B (some ad) m l) : ∀ j u, (l.flatMap rawCells)[j]? = some u → w.cell? (ad.add j) = some u := by
  intro j u hu
  have hj : j < l.length * 5 := by have := (List.getElem?_eq_some_iff.1 hu).1; rw [raw_len] at this; exact this
  obtain ⟨k, i, hi, rfl⟩ : ∃ k i, i < 5 ∧ j = k * 5 + i := ⟨j / 5, j % 5, by omega, by omega⟩
  have hk : k < l.length := by omega
  rw [raw_get l k hk i hi] at hu
  obtain ⟨ad', e, _, c0, c1, c2, c3, c4, _⟩ := h.2 k hk
  injection e with e
  subst e
  rw [← add_add']
  match i, hi with
  | 0, _ =>
    have hu' : Value.int .i64 (l[k].op) = u := Option.some.inj hu
    subst hu'
    have e0 : (ad.add (k * 5)).add 0 = ad.add (k * 5) := by unfold Addr.add; rfl
    rw [e0]; exact c0
  | 1, _ =>
    have hu' : Value.int .i64 (l[k].fld) = u := Option.some.inj hu
    subst hu'
    rw [raw_addS _ (by decide)]; exact c1
  | 2, _ =>
    have hu' : Value.string (ba (l[k].text)) = u := Option.some.inj hu
    subst hu'
    rw [raw_addS _ (by decide)]; exact c2
  | 3, _ =>
    have hu' : Value.int .i64 (l[k].n) = u := Option.some.inj hu
    subst hu'
    rw [raw_addS _ (by decide)]; exact c3
  | 4, _ =>
    have hu' : Value.slice (l[k].kids).1 (l[k].kids).2.1 (l[k].kids).2.2 = u := Option.some.inj hu
    subst hu'
    rw [raw_addS _ (by decide)]; exact c4
set_option maxRecDepth 100000 in
theorem run_noneRaw (w : World) (B : Nat) (t ty : TypeId) (ht : Tryz.prog.underlying t = some (.slice 25)) (v : Value) (acc : List (RawQ)) (hown : OwnRaws w B v acc) (c : Nat) : (Builtin.append_ #[t, t] ty #[v, .slice none 0 c]).run Tryz.prog w = .ok v w := by
  obtain ⟨i0, hi, hz0, hz1, hz2⟩ := info_parts raw_info
  rcases hown.row.2 with ⟨rfl, _⟩ | ⟨g, cap, cur, rfl, _, _, hnc, _⟩
  · simp [Builtin.append_, run_underlying ht, sizeOf, typeInfo, hi, Builtin.lenOf, Builtin.firstCells]
  · simp [Builtin.append_, run_underlying ht, sizeOf, typeInfo, hi, Builtin.lenOf, Builtin.firstCells, hnc, storeCells]
set_option maxRecDepth 100000 in
theorem run_joinRaw (w : World) (B : Nat) (t ty : TypeId) (ht : Tryz.prog.underlying t = some (.slice 25)) (v : Value) (acc : List (RawQ)) (hown : OwnRaws w B v acc) (hB : B ≤ w.heap.size)
    (D : Nat) (A : Option Addr) (m c : Nat) (l : List (RawQ)) (hr : Raws w D A m l) (hlen : acc.length + m ≤ 1000000000) :
    ∃ v' w', (Builtin.append_ #[t, t] ty #[v, .slice A m c]).run Tryz.prog w = .ok v' w' ∧ OwnRaws w' B v' (acc ++ l) ∧ w.grownBy w' v.ownBlock ∧ (v'.ownBlock = v.ownBlock ∨ ∃ k, v'.ownBlock = some k ∧ w.heap.size ≤ k) := by
  obtain ⟨i0, hi, hz0, hz1, hz2⟩ := info_parts raw_info
  have hml := hr.len
  rcases A with _ | ad
  · have hl : l = [] := by
      cases l with
      | nil => rfl
      | cons a r => obtain ⟨ad, e, _⟩ := hr.2 0 (by simp); cases e
    subst hl
    obtain rfl : m = 0 := hml.symm
    exact ⟨v, w, run_noneRaw w B t ty ht v acc hown c, by simpa using hown, World.grownBy.refl w _, .inl rfl⟩
  · obtain ⟨v', w', hrun, h2, h3, _, h5⟩ := run_append_own_at (P := Tryz.prog) w B t ty 25 i0 _ 5 64 ht hi hz0 hz1 hz2 rfl (by omega) v acc.length (acc.flatMap rawCells) hown.row ad m c (l.flatMap rawCells) (by rw [raw_len, hml]) hr.cells (raw_one l) (by simp only [maxLen]; omega) (by omega) hB
    refine ⟨v', w', hrun, ⟨?_, fun t ht => ?_⟩, h3, ?_⟩
    · rw [List.flatMap_append, List.length_append, hml]; exact h2
    · rcases List.mem_append.1 ht with ht | ht
      · exact hown.each t ht
      · obtain ⟨k, hk, rfl⟩ := List.getElem_of_mem ht
        obtain ⟨_, _, _, _, _, _, _, _, hb⟩ := hr.2 k hk
        exact hb
    · rcases h5 with h | h
      · exact .inl h
      · exact .inr ⟨_, h, Nat.le_refl _⟩
theorem wpList_joinRaw {ops : Array Oper} {rest : List Oper} {o : Oper} {a : Act} {w : World} {Q : Exit → Act → World → Prop} {B : Nat} {v : Value} {acc : List (RawQ)} (hown : OwnRaws w B v acc) (hB : B ≤ w.heap.size)
    {D : Nat} {A : Option Addr} {m : Nat} {l : List (RawQ)} (hr : Raws w D A m l) (hlen : acc.length + m ≤ 1000000000) (hgd : o.guard = none) (s x : Operand) (t : TypeId) (c : Nat)
    (ho : o.op = .call { callee := .builtin .append, args := #[s, x], argTypes := #[t, t] }) (ht : Tryz.prog.underlying t = some (.slice 25)) (hs : a.eval s = v) (hx : a.eval x = .slice A m c)
    (h : ∀ v' w', OwnRaws w' B v' (acc ++ l) → w.grownBy w' v.ownBlock → (v'.ownBlock = v.ownBlock ∨ ∃ k, v'.ownBlock = some k ∧ w.heap.size ≤ k) → wpList Tryz.prog ops Q rest (a.put o.dst v') w') : wpList Tryz.prog ops Q (o :: rest) a w := by
  refine wpList_plain hgd fun K hK => ?_
  obtain ⟨v', w', hrun, h2, h3, h4⟩ := run_joinRaw w B t o.type ht v acc hown hB D A m c l hr hlen
  unfold Oper.wp execOp
  simp only [ho, resolve, invoke, builtin, Sem.run_bind, Sem.run_pure, Result.andThen_ok, List.map_toArray, List.map_cons, List.map_nil, hs, hx, hrun]
  exact hK _ _ (h v' w' h2 h3 h4)
end Go.Proofs.YtomcdhmcjndioaaGreatDoor
end
section
namespace Go.Proofs.YtomcdhmcjndioaaGreatDoor
open Go.RowKit
set_option linter.unusedVariables false

theorem Raws.keep {w w' : World} {A : Option Addr} {n : Nat} {ts : List RawQ} (h : Raws w w.heap.size A n ts) (hs : w.heap.size ≤ w'.heap.size) (hb : ∀ ad, A = some ad → 0 < n → w'.heap[ad.block]? = w.heap[ad.block]?) : Raws w' w'.heap.size A n ts := by
  refine ⟨h.1, fun k hk => ?_⟩
  obtain ⟨ad, e, h1, c0, c1, c2, c3, c4, h5⟩ := h.2 k hk
  have hh : ∀ p : Addr, p.block = (ad.add (k * 5)).block → w'.cell? p = w.cell? p := fun p hp => World.cell?_of_block (w := w) (by
    rw [hp, add_block]
    exact hb ad e (by rw [h.1]; omega))
  exact ⟨ad, e, Nat.lt_of_lt_of_le h1 hs, (hh _ rfl).trans c0, (hh ⟨(ad.add (k * 5)).block, _, none⟩ rfl).trans c1, (hh ⟨(ad.add (k * 5)).block, _, none⟩ rfl).trans c2, (hh ⟨(ad.add (k * 5)).block, _, none⟩ rfl).trans c3, (hh ⟨(ad.add (k * 5)).block, _, none⟩ rfl).trans c4, h5⟩
/-- The struct r is the query q; what it reads of memory lies in blocks of P. -/
inductive QDeep (w : World) (P : Nat → Prop) : RawQ → Qry → Prop
  | mk {op fld : Int} {text : List UInt8} {n : Int} {A : Option Addr} {m c : Nat} {kids : List Qry} {raws : List RawQ} (hr : Raws w w.heap.size A m raws) (hp : ∀ ad, A = some ad → 0 < m → P ad.block)
      (hl : raws.length = kids.length) (hm : m ≤ c) (hc : c ≤ maxLen) (hk : ∀ i (h1 : i < raws.length) (h2 : i < kids.length), QDeep w P raws[i] kids[i]) : QDeep w P ⟨op, fld, text, n, (A, m, c)⟩ (.mk op fld text n kids)
theorem QDeep.keep {w w' : World} {P P' : Nat → Prop} {r : RawQ} {q : Qry} (h : QDeep w P r q) (hs : w.heap.size ≤ w'.heap.size) (hb : ∀ b, P b → w'.heap[b]? = w.heap[b]?) (hP : ∀ b, P b → P' b) : QDeep w' P' r q := by
  induction h with
  | mk hr hp hl hm hc hk ih => exact .mk (hr.keep hs fun ad e h0 => hb _ (hp ad e h0)) (fun ad e h0 => hP _ (hp ad e h0)) hl hm hc ih
theorem QDeep.more {w : World} {P P' : Nat → Prop} {r : RawQ} {q : Qry} (h : QDeep w P r q) (hP : ∀ b, P b → P' b) : QDeep w P' r q := h.keep (Nat.le_refl _) (fun _ _ => rfl) hP
/-- A query without children. -/
theorem QDeep.leaf (w : World) (P : Nat → Prop) (op fld : Int) (text : List UInt8) (n : Int) : QDeep w P ⟨op, fld, text, n, (none, 0, 0)⟩ (.mk op fld text n []) :=
  .mk Raws.nil_ (fun ad e => by cases e) rfl (Nat.le_refl _) (Nat.zero_le _) (fun i h => by simp at h)
theorem QDeep.lt {w : World} {P : Nat → Prop} {r : RawQ} {q : Qry} (h : QDeep w P r q) : QDeep w (fun b => P b ∧ b < w.heap.size) r q := by
  induction h with
  | mk hr hp hl hm hc hk ih =>
    refine .mk hr (fun ad e h0 => ⟨hp ad e h0, ?_⟩) hl hm hc ih
    obtain ⟨ad', e', h1, _⟩ := hr.2 0 (by rw [hr.len]; exact h0)
    rw [e] at e'
    injection e' with e'
    subst e'
    rw [add_block] at h1
    exact h1
/-- Memory of the own's: from B on. -/
def QOwn (w : World) (B : Nat) (r : RawQ) (q : Qry) : Prop := QDeep w (fun b => B ≤ b) r q
theorem QOwn.below {w w' : World} {B : Nat} {r : RawQ} {q : Qry} (h : QOwn w B r q) (hb : Below w.heap.size w w') : QOwn w' B r q :=
  QDeep.keep (QDeep.lt h) hb.size (fun b h => hb.block b h.2) (fun b h => h.1)
theorem QOwn.more {w : World} {B B' : Nat} {r : RawQ} {q : Qry} (h : QOwn w B r q) (hB : B' ≤ B) : QOwn w B' r q := QDeep.more h fun b hb => Nat.le_trans hB hb
/-- A list of queries that a slice of the own's holds. -/
structure QList (w : World) (B : Nat) (v : Value) (l : List Qry) : Prop where
  row : ∃ raws : List RawQ, OwnRaws w B v raws ∧ raws.length = l.length ∧ ∀ i (h1 : i < raws.length) (h2 : i < l.length), QDeep w (fun b => B ≤ b ∧ v.ownBlock ≠ some b) raws[i] l[i]
end Go.Proofs.YtomcdhmcjndioaaGreatDoor
end
section
namespace Go.Proofs.YtomcdhmcjndioaaGreatDoor
open Go.RowKit
set_option linter.unusedVariables false

/-- Whether two things are equal. -/
noncomputable def eqC {α : Type} (a b : α) : Bool := @decide (a = b) (Classical.propDecidable _)
theorem eqC_true {α : Type} {a b : α} : eqC a b = true ↔ a = b := by unfold eqC; exact @decide_eq_true_iff _ (Classical.propDecidable _)
theorem eqC_false {α : Type} {a b : α} (h : a ≠ b) : eqC a b = false := by unfold eqC; exact @decide_eq_false _ (Classical.propDecidable _) h
noncomputable abbrev eqQ (a b : Qry) : Bool := eqC a b
theorem eqQ_true {a b : Qry} : eqQ a b = true ↔ a = b := eqC_true
theorem eqQ_false {a b : Qry} (h : a ≠ b) : eqQ a b = false := eqC_false h
def SmPost (w : World) (v : Bool) (e : Ending) (w' : World) : Prop := e = .returned (.bool v) ∧ Below w.heap.size w w'
theorem sm_end {w w' : World} {b c : Bool} (h : b = c) (hb : Below w.heap.size w w') : SmPost w b (.returned (.bool c)) w' := by
  subst h
  exact ⟨rfl, hb⟩
theorem QDeep.bel {w w' : World} {P : Nat → Prop} {r : RawQ} {q : Qry} (h : QDeep w P r q) (hb : Below w.heap.size w w') : QDeep w' P r q :=
  QDeep.keep (QDeep.lt h) hb.size (fun b h => hb.block b h.2) (fun b h => h.1)
/-- The children of a query, in memory. -/
structure KidsIn (w : World) (A : Option Addr) (n : Nat) (l : List Qry) (raws : List RawQ) : Prop where
  row : Raws w w.heap.size A n raws
  len : raws.length = l.length
  max : n ≤ maxLen
  all : ∀ i (h1 : i < raws.length) (h2 : i < l.length), QDeep w (fun _ => True) raws[i] l[i]
theorem KidsIn.bel {w w' : World} {A : Option Addr} {n : Nat} {l : List Qry} {raws : List RawQ} (h : KidsIn w A n l raws) (hb : Below w.heap.size w w') : KidsIn w' A n l raws :=
  ⟨(h.row.below hb).more hb.size, h.len, h.max, fun i h1 h2 => (h.all i h1 h2).bel hb⟩
theorem KidsIn.size {w : World} {A : Option Addr} {n : Nat} {l : List Qry} {raws : List RawQ} (h : KidsIn w A n l raws) : n = l.length := by rw [← h.len, h.row.len]
/-- A query in memory: its words, and its children. -/
theorem QDeep.open_ {w : World} {P : Nat → Prop} {op fld n : Int} {t : List UInt8} {A : Option Addr} {m c : Nat} {q : Qry} (h : QDeep w P ⟨op, fld, t, n, (A, m, c)⟩ q) : ∃ kids raws, q = .mk op fld t n kids ∧ KidsIn w A m kids raws ∧ m ≤ c ∧ c ≤ maxLen := by
  cases h with
  | mk hr hp hl hm hc hk => exact ⟨_, _, rfl, ⟨hr, hl, Nat.le_trans hm hc, fun i h1 h2 => (hk i h1 h2).more fun _ _ => trivial⟩, hm, hc⟩
theorem kid_size {op fld n : Int} {t : List UInt8} {kids : List Qry} {k : Qry} (h : k ∈ kids) : SizeOf.sizeOf k < SizeOf.sizeOf (Qry.mk op fld t n kids) := by
  have := List.sizeOf_lt_of_mem h
  rw [Qry.mk.sizeOf_spec]
  omega
/-- What is claimed of K (one of the two Same) at the query q. -/
def SameC (K : Nat) (q : Qry) : Prop := ∀ (w : World) (r1 r2 : RawQ) (q2 : Qry), QDeep w (fun _ => True) r1 q → QDeep w (fun _ => True) r2 q2 → Calls Tryz.prog K #[r1.val, r2.val] w (SmPost w (eqQ q q2))
theorem take_sameQ {ps qs : List Qry} {k : Nat} (h1 : k < ps.length) (h2 : k < qs.length) (h : ps.take k = qs.take k) (he : ps[k] = qs[k]) : ps.take (k + 1) = qs.take (k + 1) := by
  rw [List.take_succ_eq_append_getElem h1, List.take_succ_eq_append_getElem h2, h, he]
structure SqRel (w : World) (ps qs : List Qry) (k : Nat) (wr : World) : Prop where
  eq : ps.take k = qs.take k
  bel : Below w.heap.size w wr
set_option maxRecDepth 100000 in
set_option maxHeartbeats 4000000 in
theorem eqfunc_any (ps qs : List Qry) (A A' : Option Addr) (n n' c c' : Nat) (raws raws' : List RawQ) (w : World) (hP : KidsIn w A n ps raws) (hQ : KidsIn w A' n' qs raws') (IH : ∀ p ∈ ps, SameC 9 p) :
    Calls Tryz.prog 19 #[.slice A n c, .slice A' n' c', .func (.func 9) #[] #[]] w (SmPost w (eqC ps qs)) := by
  have HP := Lib.hid hP
  have HQ := Lib.hid hQ
  have HN := Lib.hid hP.size
  have HN' := Lib.hid hQ.size
  have HIH := Lib.hid IH
  have hmx := hP.max
  unfold maxLen at hmx
  clear hP hQ IH
  by_cases hnn : n = n'
  · subst hnn
    go_enter Tryz.func19, Tryz.ntmps19
    go_wp2
    go_loopw [17] (fun i wr => ∃ k : Nat, k ≤ n ∧ i = .int .i64 (k : Int) ∧ Hid (SqRel w ps qs k wr)) (fun i _ => n - (intOf i).toNat)
    case atStart => exact ⟨0, Nat.zero_le _, rfl, Lib.hid ⟨rfl, Below.refl _ _⟩⟩
    case round =>
      obtain ⟨k, hk, rfl, HR⟩ := hrel
      by_cases hlt : k < n
      · have hk2 : (k : Int) < n := by omega
        have hkl : k < ps.length := by rw [← HN.out]; exact hlt
        have hkq : k < qs.length := by rw [← HN'.out]; exact hlt
        have HPR := Lib.hid (HP.out.bel HR.out.bel)
        have HQR := Lib.hid (HQ.out.bel HR.out.bel)
        have hkr : k < raws.length := by rw [HPR.out.len]; exact hkl
        have hkr' : k < raws'.length := by rw [HQR.out.len]; exact hkq
        obtain ⟨ad, rfl, la, c0, c1, c2, c3, c4, -⟩ := HPR.out.row.2 k hkr
        obtain ⟨ae, rfl, le, d0, d1, d2, d3, d4, -⟩ := HQR.out.row.2 k hkr'
        have HTS := Lib.hid (take_sameQ hkl hkq HR.out.eq)
        have HNE := Lib.hid (fun (h : ps[k] ≠ qs[k]) (e : ps = qs) => h (by subst e; rfl))
        have hda := HPR.out.all k hkr hkl
        have hdb := HQR.out.all k hkr' hkq
        have hih := HIH.out ps[k] (List.getElem_mem hkl)
        obtain ⟨p, hp⟩ : ∃ p, ps[k] = p := ⟨_, rfl⟩
        obtain ⟨q, hq⟩ : ∃ p, qs[k] = p := ⟨_, rfl⟩
        obtain ⟨r, hr⟩ : ∃ r, raws[k] = r := ⟨_, rfl⟩
        obtain ⟨r', hr'⟩ : ∃ r, raws'[k] = r := ⟨_, rfl⟩
        rw [hp] at HTS HNE hda hih
        rw [hq] at HTS HNE hdb
        rw [hr] at c0 c1 c2 c3 c4 hda
        rw [hr'] at d0 d1 d2 d3 d4 hdb
        obtain ⟨o1, f1, t1, n1, A1, m1, cc1⟩ := r
        obtain ⟨o2, f2, t2, n2, A2, m2, cc2⟩ := r'
        dsimp only at c0 c1 c2 c3 c4 d0 d1 d2 d3 d4
        have HBE := Lib.hid HR.out.bel
        obtain ⟨ob1, hob1⟩ : ∃ o : Obj, .cells #[.int .i64 o1, .int .i64 f1, .string (ba t1), .int .i64 n1, .slice A1 m1 cc1] 25 = o := ⟨_, rfl⟩
        obtain ⟨ob2, hob2⟩ : ∃ o : Obj, .cells #[.int .i64 o2, .int .i64 f2, .string (ba t2), .int .i64 n2, .slice A2 m2 cc2] 25 = o := ⟨_, rfl⟩
        have hbw : Below wr.heap.size wr ((wr.alloc ob1).alloc ob2) := ((Below.refl _ _).alloc (Nat.le_refl _) _).alloc (by simp) _
        have HC := Lib.hid (hih _ _ _ q (hda.bel hbw) (hdb.bel hbw))
        have HB2 := Lib.hid (HBE.out.trans (hbw.mono HBE.out.size))
        rw [← hob1, ← hob2] at HC HB2
        clear hp hq hkl hkq hda hdb hih hr hr' HPR HQR HR hob1 hob2 hbw hkr hkr'
        unfold RawQ.val at HC
        dsimp only at HC
        go_wp2_with fail
        refine HC.out.mono ?_
        rintro e w2 ⟨rfl, hb2⟩
        have HB3 := Lib.hid (HB2.out.trans (hb2.mono HB2.out.size))
        clear hb2
        by_cases he : p = q
        · have HT := Lib.hid (HTS.out he)
          rw [eqQ_true.2 he]
          clear HTS HNE he
          go_wp2
          go_roundw
          case rel => exact ⟨k + 1, by omega, by go_num, Lib.hid ⟨HT.out, HB3.out⟩⟩
          case measure => simp [intOf] <;> omega
        · have HF := Lib.hid (show eqC ps qs = false from eqC_false (HNE.out he))
          rw [eqQ_false he]
          clear HTS HNE he
          go_wp2
          go_ret
          exact sm_end HF.out HB3.out
      · obtain rfl : k = n := by omega
        have HF := Lib.hid (show eqC ps qs = true from eqC_true.2 (by
          have h := HR.out.eq
          rw [List.take_of_length_le (by rw [← HN.out]; exact Nat.le_refl _), List.take_of_length_le (by rw [← HN'.out]; exact Nat.le_refl _)] at h
          exact h))
        have HBE := Lib.hid HR.out.bel
        clear HR
        go_wp2
        go_ret
        exact sm_end HF.out HBE.out
  · have HF := Lib.hid (show eqC ps qs = false from eqC_false fun h => hnn (by rw [HN.out, HN'.out, h]))
    have g1 : ((n : Int) == (n' : Int)) = false := by simpa using fun h : (n : Int) = (n' : Int) => hnn (by omega)
    have g2 : ¬ (n : Int) = (n' : Int) := by omega
    have HB := Lib.hid (Below.refl w.heap.size w)
    go_enter Tryz.func19, Tryz.ntmps19
    go_wp2
    go_ret
    exact sm_end HF.out HB.out
theorem eqQ_mk (o1 f1 n1 : Int) (t1 : List UInt8) (k1 : List Qry) (o2 f2 n2 : Int) (t2 : List UInt8) (k2 : List Qry) : eqQ (.mk o1 f1 t1 n1 k1) (.mk o2 f2 t2 n2 k2) = (decide (o1 = o2) && (decide (f1 = f2) && (decide (t1 = t2) && (decide (n1 = n2) && eqC k1 k2)))) := by
  rw [Bool.eq_iff_iff]
  simp only [eqC_true, decide_eq_true_iff, Bool.and_eq_true, Qry.mk.injEq]
theorem txt_ne {s t : List UInt8} (h : s ≠ t) : ((ba s).toList == (ba t).toList) = false ∧ ¬ (ba s).toList = (ba t).toList := by
  rw [ba_toList, ba_toList]
  exact ⟨by simpa using h, h⟩
theorem eqQ_ne {a b : Qry} {o1 f1 n1 o2 f2 n2 : Int} {t1 t2 : List UInt8} {k1 k2 : List Qry} (ha : a = .mk o1 f1 t1 n1 k1) (hb : b = .mk o2 f2 t2 n2 k2) (h : ¬ (o1 = o2 ∧ f1 = f2 ∧ t1 = t2 ∧ n1 = n2)) : eqQ a b = false := by
  refine eqQ_false fun e => h ?_
  rw [ha, hb] at e
  injection e with e1 e2 e3 e4 e5
  exact ⟨e1, e2, e3, e4⟩
set_option maxRecDepth 100000 in
set_option maxHeartbeats 4000000 in
theorem qsame_step (q : Qry) (IH : ∀ p ∈ q.kids, SameC 9 p) : SameC 9 q := by
  intro w r1 r2 q2 h1 h2
  obtain ⟨o1, f1, t1, n1, A1, m1, c1⟩ := r1
  obtain ⟨o2, f2, t2, n2, A2, m2, c2⟩ := r2
  obtain ⟨ps, raws1, rfl, hk1, -, -⟩ := h1.open_
  obtain ⟨qs, raws2, rfl, hk2, -, -⟩ := h2.open_
  have HB := Lib.hid (show Below w.heap.size w ((w.alloc (.cells #[.int .i64 o1, .int .i64 f1, .string (ba t1), .int .i64 n1, .slice A1 m1 c1] 25)).alloc (.cells #[.int .i64 o2, .int .i64 f2, .string (ba t2), .int .i64 n2, .slice A2 m2 c2] 25)) from ((Below.refl _ _).alloc (Nat.le_refl _) _).alloc (by simp) _)
  have HC := Lib.hid (eqfunc_any ps qs A1 A2 m1 m2 c1 c2 raws1 raws2 _ (hk1.bel HB.out) (hk2.bel HB.out) IH)
  have HE := Lib.hid (eqQ_mk o1 f1 n1 t1 ps o2 f2 n2 t2 qs)
  have HNE := Lib.hid (eqQ_ne (k1 := ps) (k2 := qs) (o1 := o1) (f1 := f1) (n1 := n1) (t1 := t1) (o2 := o2) (f2 := f2) (n2 := n2) (t2 := t2) rfl rfl)
  obtain ⟨R, hR⟩ : ∃ R, eqQ (.mk o1 f1 t1 n1 ps) (.mk o2 f2 t2 n2 qs) = R := ⟨_, rfl⟩
  rw [hR] at HE HNE ⊢
  clear h1 h2 hk1 hk2 IH hR
  unfold RawQ.val
  dsimp only
  by_cases e1 : o1 = o2
  · subst e1
    by_cases e2 : f1 = f2
    · subst e2
      by_cases e3 : t1 = t2
      · subst e3
        by_cases e4 : n1 = n2
        · subst e4
          unfold SmPost at HC
          obtain ⟨V, hV⟩ : ∃ V, eqC ps qs = V := ⟨_, rfl⟩
          rw [hV] at HC HE
          have HF := Lib.hid (show R = V by rw [HE.out]; simp)
          clear HE HNE hV
          go_enter Tryz.func9, Tryz.ntmps9
          go_wp2_with fail
          refine HC.out.mono ?_
          rintro e w2 ⟨rfl, hb⟩
          have HB2 := Lib.hid (HB.out.trans (hb.mono HB.out.size))
          clear hb
          go_wp2
          go_ret
          exact sm_end HF.out HB2.out
        · have HF := Lib.hid (HNE.out fun h => e4 h.2.2.2)
          have g1 : (n1 == n2) = false := by simpa using e4
          clear HC HE HNE
          go_enter Tryz.func9, Tryz.ntmps9
          go_wp2
          go_ret
          exact sm_end HF.out HB.out
      · have HF := Lib.hid (HNE.out fun h => e3 h.2.2.1)
        obtain ⟨g1, g2⟩ := txt_ne e3
        clear HC HE HNE e3
        go_enter Tryz.func9, Tryz.ntmps9
        go_wp2
        go_ret
        exact sm_end HF.out HB.out
    · have HF := Lib.hid (HNE.out fun h => e2 h.2.1)
      have g1 : (f1 == f2) = false := by simpa using e2
      clear HC HE HNE
      go_enter Tryz.func9, Tryz.ntmps9
      go_wp2
      go_ret
      exact sm_end HF.out HB.out
  · have HF := Lib.hid (HNE.out fun h => e1 h.1)
    have g1 : (o1 == o2) = false := by simpa using e1
    clear HC HE HNE
    go_enter Tryz.func9, Tryz.ntmps9
    go_wp2
    go_ret
    exact sm_end HF.out HB.out
/-- Same by induction on the size of its first query. -/
theorem same_all (K : Nat) (step : ∀ q, (∀ p ∈ q.kids, SameC K p) → SameC K q) : ∀ (n : Nat) (q : Qry), SizeOf.sizeOf q ≤ n → SameC K q
  | 0, .mk o f t n kids, h => by rw [Qry.mk.sizeOf_spec] at h; omega
  | k + 1, .mk o f t n kids, h => step _ fun p hp => same_all K step k p (by have := kid_size (op := o) (fld := f) (t := t) (n := n) (show p ∈ kids from hp); omega)
theorem qsame_any (q : Qry) : SameC 9 q := same_all _ qsame_step _ q (Nat.le_refl _)
end Go.Proofs.YtomcdhmcjndioaaGreatDoor
end
section
namespace Go.Proofs.YtomcdhmcjndioaaGreatDoor
open Go.RowKit
set_option linter.unusedVariables false

theorem idx_field (s : List UInt8) : Lib.idxOfS ([ba [], ba [102, 114, 111, 109], ba [116, 111], ba [115, 117, 98, 106, 101, 99, 116], ba [98, 111, 100, 121], ba [102, 105, 108, 101]]) (ba (smallP s)) = -1 ∧ fieldQ s = 0 ∨ Lib.idxOfS ([ba [], ba [102, 114, 111, 109], ba [116, 111], ba [115, 117, 98, 106, 101, 99, 116], ba [98, 111, 100, 121], ba [102, 105, 108, 101]]) (ba (smallP s)) = (fieldQ s : Nat) := by
  unfold fieldQ
  obtain ⟨t, ht⟩ : ∃ t, smallP s = t := ⟨_, rfl⟩
  rw [ht]
  by_cases h0 : t = []
  · subst h0; right; decide
  by_cases h1 : t = [102, 114, 111, 109]
  · subst h1; right; decide
  by_cases h2 : t = [116, 111]
  · subst h2; right; decide
  by_cases h3 : t = [115, 117, 98, 106, 101, 99, 116]
  · subst h3; right; decide
  by_cases h4 : t = [98, 111, 100, 121]
  · subst h4; right; decide
  by_cases h5 : t = [102, 105, 108, 101]
  · subst h5; right; decide
  · left
    refine ⟨?_, by simp [h1, h2, h3, h4, h5]⟩
    have e : ∀ x : List UInt8, t ≠ x → ¬ (ba x = ba t) := fun x h e => h (ba_inj.1 e).symm
    simp [Lib.idxOfS, Lib.idxFromS, e _ h0, e _ h1, e _ h2, e _ h3, e _ h4, e _ h5]
set_option maxRecDepth 100000 in
set_option maxHeartbeats 4000000 in
theorem qfield_any (l : List UInt8) (w : World) (hl : l.length ≤ 1000000000) (hT : QTabs w) :
    Calls Tryz.prog 28 #[.string (ba l)] w fun e w' => e = .returned (.int .i64 (fieldQ l : Nat)) ∧ Below w.heap.size w w' := by
  have HSM := Lib.hid (fun W => qsmall_any l W hl)
  unfold StrB at HSM
  have HT := Lib.hid hT
  have HIX := Lib.hid (show ∀ W, QTabs W → Calls Tryz.prog 48 #[.slice (some ⟨0, 0, none⟩) 6 6, .string (ba (smallP l))] W fun e w' => e = .returned (.int .i64 (Lib.idxOfS ([ba [], ba [102, 114, 111, 109], ba [116, 111], ba [115, 117, 98, 106, 101, 99, 116], ba [98, 111, 100, 121], ba [102, 105, 108, 101]]) (ba (smallP l)))) ∧ w' = W from fun W h => by
    refine (Tryz.slices_Index_string 0 0 6 6 [ba [], ba [102, 114, 111, 109], ba [116, 111], ba [115, 117, 98, 106, 101, 99, 116], ba [98, 111, 100, 121], ba [102, 105, 108, 101]] (ba (smallP l)) W (by simp) (by decide) (fun j hj => ?_)).mono ?_
    · rw [Nat.zero_add]
      have h1 := h.fld j (by simpa using hj)
      rw [h1]
      have hj6 : j < 6 := by simpa using hj
      rcases (show j = 0 ∨ j = 1 ∨ j = 2 ∨ j = 3 ∨ j = 4 ∨ j = 5 by omega) with rfl | rfl | rfl | rfl | rfl | rfl <;> rfl
    · rintro e w' ⟨rfl, rfl⟩
      exact ⟨rfl, rfl⟩)
  have HV := Lib.hid (idx_field l)
  obtain ⟨v, hv⟩ : ∃ v, Lib.idxOfS ([ba [], ba [102, 114, 111, 109], ba [116, 111], ba [115, 117, 98, 106, 101, 99, 116], ba [98, 111, 100, 121], ba [102, 105, 108, 101]]) (ba (smallP l)) = v := ⟨_, rfl⟩
  simp only [hv] at HV HIX
  obtain ⟨t, ht⟩ : ∃ t, ba (smallP l) = t := ⟨_, rfl⟩
  simp only [ht] at HIX HSM
  obtain ⟨s, hs⟩ : ∃ s, ba l = s := ⟨_, rfl⟩
  simp only [hs] at HSM
  rw [hs]
  have c0 := hT.fld 0 (by decide)
  clear hv ht hs hT
  go_enter Tryz.func28, Tryz.ntmps28
  go_wp2_with fail
  go_region_held3 (fun w' => w'.cell? ⟨0, 0, none⟩ = some (.string (ba (fieldsQ.getD 0 []))))
    (first | assumption | go_keep)
    (first
      | (go_simp; go_at_call 49; refine (HSM.out _).mono ?_; rintro e v1 ⟨rfl, hb⟩; (
          have HV1 := Lib.hid (show Below w.heap.size w v1 from (show Below w.heap.size w w.drew from (Below.refl _ _).drew).trans (hb.mono (Nat.le_refl _)))
          have p0 : v1.cell? ⟨0, 0, none⟩ = some (.string (ba (fieldsQ.getD 0 []))) := (HT.out.below HV1.out).fld 0 (by decide)
          clear hb))
      | (go_simp; go_at_call 48; refine (HIX.out _ (HT.out.below HV1.out)).mono ?_; rintro e v2 ⟨rfl, rfl⟩)
      | fail)
  all_goals
    have HE := Lib.hid (show max v 0 = ((fieldQ l : Nat) : Int) by rcases HV.out with ⟨h1, h2⟩ | h1 <;> omega)
    clear HV
    go_wp2
    go_ret
    exact ⟨by rw [HE.out]; rfl, HV1.out⟩
end Go.Proofs.YtomcdhmcjndioaaGreatDoor
end
section
namespace Go.Proofs.YtomcdhmcjndioaaGreatDoor
open Go.RowKit
set_option linter.unusedVariables false

theorem bdN {B : Nat} {a b : World} (h : Below B a b) (n : Nat) : Below B a (b.drewN n) := ⟨h.os, h.tape, h.output, h.size, h.block⟩
/-- A token as the program's piece. -/
def pcV (x : Pce) : Value := match x.tok with
  | .fin => .agg #[.int .i64 0, .int .i64 (x.src : Nat), .int .i64 (x.dst : Nat), .string ⟨#[]⟩, .int .i64 0, .bool false]
  | .opn => .agg #[.int .i64 1, .int .i64 (x.src : Nat), .int .i64 (x.dst : Nat), .string ⟨#[]⟩, .int .i64 0, .bool false]
  | .sht => .agg #[.int .i64 2, .int .i64 (x.src : Nat), .int .i64 (x.dst : Nat), .string ⟨#[]⟩, .int .i64 0, .bool false]
  | .dash => .agg #[.int .i64 3, .int .i64 (x.src : Nat), .int .i64 (x.dst : Nat), .string ⟨#[]⟩, .int .i64 0, .bool false]
  | .bad => .agg #[.int .i64 4, .int .i64 (x.src : Nat), .int .i64 0, .string ⟨#[]⟩, .int .i64 0, .bool true]
  | .quo t f _ => .agg #[.int .i64 4, .int .i64 (x.src : Nat), .int .i64 (x.dst : Nat), .string (ba t), .int .i64 (f : Nat), .bool false]
  | .bare t => .agg #[.int .i64 5, .int .i64 (x.src : Nat), .int .i64 (x.dst : Nat), .string (ba t), .int .i64 0, .bool false]
def QPk (w : World) (x : Pce) (e : Ending) (w' : World) : Prop := e = .returned (pcV x) ∧ Below w.heap.size w w'
theorem qpk_end {w w' : World} {x y : Pce} {v : Value} (h : x = y) (hv : v = pcV y) (hb : Below w.heap.size w w') : QPk w x (.returned v) w' := by
  rw [h, hv]
  exact ⟨rfl, hb⟩
theorem quo_cut (a : Nat) (r : List UInt8) : (cutP 34 r = none ∧ ∀ src f raw, quoQ src a r f raw = ⟨a, a, .bad⟩) ∨ ∃ t u, cutP 34 r = some (t, u) ∧ t.length + u.length + 1 = r.length ∧ ∀ src f raw, quoQ src a r f raw = ⟨src, a + t.length + 2, .quo t f raw⟩ := by
  cases h : cutP 34 r with
  | none => exact .inl ⟨rfl, fun src f raw => quo_bad (cutP_none.1 h)⟩
  | some q =>
    obtain ⟨t, u⟩ := q
    have h1 := cutP_some h
    refine .inr ⟨t, u, rfl, by rw [h1.1]; simp; omega, fun src f raw => quo_ok h1.1 h1.2⟩
set_option maxRecDepth 100000 in
set_option maxHeartbeats 4000000 in
theorem qquoted_any (l raw : List UInt8) (b src a f : Nat) (w : World) (hl : l.length ≤ 1000000000) (hsr : src ≤ 1000000000) (ha : a < l.length) (hf : f ≤ 100) (hT : QTabs w) (c0 : w.cell? ⟨b, 0, none⟩ = some (.string (ba l))) :
    Calls Tryz.prog 25 #[.pointer (some ⟨b, 0, none⟩), .int .i64 (src : Int), .int .i64 (a : Int), .int .i64 (f : Int)] w (QPk w (quoQ src a (l.drop (a + 1)) f raw)) := by
  have HQ := Lib.hid (quo_cut a (l.drop (a + 1)))
  have HLL := Lib.hid (show (l.drop (a + 1)).length = l.length - (a + 1) from List.length_drop)
  have HT := Lib.hid hT
  have hbw : b < w.heap.size := World.block_lt_of_cell? w ⟨b, 0, none⟩ c0
  obtain ⟨n, hn⟩ : ∃ n, l.length = n := ⟨_, rfl⟩
  have HD := Lib.hid (ba_drop l (a + 1))
  obtain ⟨s, hs⟩ : ∃ s, ba l = s := ⟨_, rfl⟩
  have hsz : (s.size : Int) = n := by rw [← hs, ba_size, hn]
  rw [hs] at c0 HD
  rw [hn] at hl ha HLL
  have HRL := Lib.hid (show (l.drop (a + 1)).length ≤ 1000000000 by rw [HLL.out]; omega)
  obtain ⟨r, hr⟩ : ∃ r, l.drop (a + 1) = r := ⟨_, rfl⟩
  rw [hr] at HD HQ HLL HRL ⊢
  have h1 : (a : Int) + 1 ≤ (n : Int) := by omega
  clear hs hn hr hT
  rcases HQ.out with ⟨hc, hq⟩ | ⟨t, u, hc, hlen, hq⟩
  · have HF := Lib.hid (hq src f raw)
    have HCV := Lib.hid (show cutV 34 r = (r, [], false) by unfold cutV; rw [hc])
    clear hc hq HQ
    go_enter Tryz.func25, Tryz.ntmps25
    go_wp2_with fail
    rw [HD.out]
    refine (cut_any 34 r _ HRL.out (HT.out.below ((Below.refl _ _).alloc (Nat.le_refl _) _))).mono ?_
    rintro e w1 ⟨rfl, k, rfl⟩
    have HB1 := Lib.hid (bdN ((Below.refl w.heap.size w).alloc (Nat.le_refl _) (.cells #[.int .i64 0, .int .i64 0, .int .i64 0, .string ⟨#[]⟩, .int .i64 0, .bool false] 41)) k)
    rw [HCV.out]
    go_wp2
    refine bodyPost_ret (by simp [results, Tryz.results25, go_sem]; try rfl) rfl ?_
    refine qpk_end HF.out rfl ?_
    repeat (first | (with_reducible exact HB1.out) | refine Below.setCell ?_ (by simp) _)
  · have HF := Lib.hid (hq src f raw)
    have HCV := Lib.hid (show cutV 34 r = (t, u, true) by unfold cutV; rw [hc])
    have htl : (t.length : Int) + (a : Int) + 2 ≤ (n : Int) := by rw [HLL.out] at hlen; omega
    have HZ := Lib.hid (ba_size t)
    clear hc hq HQ hlen
    obtain ⟨m, hm⟩ : ∃ m, t.length = m := ⟨_, rfl⟩
    rw [hm] at htl HF HZ
    obtain ⟨z, hz⟩ : ∃ z, ba t = z := ⟨_, rfl⟩
    have HZZ := Lib.hid hz
    rw [hz] at HZ
    have hz1 : (z.size : Int) = m := by rw [HZ.out]
    clear hm
    go_enter Tryz.func25, Tryz.ntmps25
    go_wp2_with fail
    rw [HD.out]
    refine (cut_any 34 r _ HRL.out (HT.out.below ((Below.refl _ _).alloc (Nat.le_refl _) _))).mono ?_
    rintro e w1 ⟨rfl, k, rfl⟩
    have HB1 := Lib.hid (bdN ((Below.refl w.heap.size w).alloc (Nat.le_refl _) (.cells #[.int .i64 0, .int .i64 0, .int .i64 0, .string ⟨#[]⟩, .int .i64 0, .bool false] 41)) k)
    rw [HCV.out]
    dsimp only
    rw [HZZ.out]
    go_wp2
    refine bodyPost_ret (by simp [results, Tryz.results25, go_sem]; try rfl) rfl ?_
    refine qpk_end HF.out (by rw [← HZZ.out]; rfl) ?_
    repeat (first | (with_reducible exact HB1.out) | refine Below.setCell ?_ (by simp) _)
end Go.Proofs.YtomcdhmcjndioaaGreatDoor
end
section
namespace Go.Proofs.YtomcdhmcjndioaaGreatDoor
open Go.RowKit
set_option linter.unusedVariables false

theorem word_info : (Tryz.prog.info? 69).map (fun i => (i.zero, i.size, i.bytes)) = some (some (.agg #[.string ByteArray.empty, .int .i64 0, .int .i64 0]), 3, 32) := by kernel_rfl
/-- The cells of the word that lies at a range of a text. -/
def wordCells (l : List UInt8) (r : Nat × Nat) : List Value := [.string (ba (wordAt l r)), .int .i64 r.1, .int .i64 r.2]
/-- v owns the words of l at the ranges ws, in a row of its own from B on. -/
def OwnWords (w : World) (B : Nat) (v : Value) (l : List UInt8) (ws : List (Nat × Nat)) : Prop := w.ownsRow B 69 3 v ws.length (ws.flatMap (wordCells l))
theorem OwnWords.nil_ (w : World) (B : Nat) (l : List UInt8) : OwnWords w B (.slice none 0 0) l [] := World.ownsRow_nil _ _ _ _
theorem OwnWords.below {w w' : World} {B : Nat} {v : Value} {l : List UInt8} {ws : List (Nat × Nat)} (h : OwnWords w B v l ws) (hb : Below w.heap.size w w') : OwnWords w' B v l ws :=
  ownsRow_block h fun b e => hb.block b (h.lt b e).2
theorem OwnWords.shape {w : World} {B : Nat} {v : Value} {l : List UInt8} {ws : List (Nat × Nat)} (h : OwnWords w B v l ws) : ∃ A c, v = .slice A ws.length c ∧ ws.length ≤ c ∧ c ≤ maxLen := by
  rcases h.2 with ⟨rfl, h0⟩ | ⟨g, cap, cur, rfl, hb, hg, q1, q2, q3⟩
  · exact ⟨none, 0, by rw [h0], by omega, by simp⟩
  · exact ⟨_, cap, rfl, q1, q2⟩
theorem word_len (l : List UInt8) : ∀ ws : List (Nat × Nat), (ws.flatMap (wordCells l)).length = ws.length * 3 := fun ws => by induction ws with | nil => rfl | cons a r ih => simp [wordCells] at ih ⊢; omega
theorem word_get (l : List UInt8) : ∀ (ws : List (Nat × Nat)) j (hj : j < ws.length) i (hi : i < 3), (ws.flatMap (wordCells l))[j * 3 + i]? = (wordCells l ws[j])[i]? := fun ws => by
  induction ws with
  | nil => intro j hj; simp at hj
  | cons a r ih =>
    intro j hj i hi
    cases j with
    | zero =>
      simp only [List.flatMap_cons, List.getElem_cons_zero, Nat.zero_mul, Nat.zero_add]
      rw [List.getElem?_append_left (by simp [wordCells]; omega)]
    | succ j =>
      have := ih j (by simpa using hj) i hi
      simp only [List.flatMap_cons, List.getElem_cons_succ]
      rw [List.getElem?_append_right (by simp [wordCells]; omega), show (j + 1) * 3 + i - (wordCells l a).length = j * 3 + i by simp [wordCells]; omega]
      exact this
set_option maxRecDepth 100000 in
theorem wp_pushWord {o : Oper} {a : Act} {K : Act → World → Prop} {W : World} {Q : Exit → Act → World → Prop} {B : Nat} {v : Value} {l : List UInt8} {ws : List (Nat × Nat)} {r : Nat × Nat} (hT : OwnWords W B v l ws) (hB : B ≤ W.heap.size)
    (hlen : ws.length ≤ 1000000000) (s y : Operand) (c : Nat)
    (ho : o.op = .call { callee := .builtin .append, args := #[s, y], argTypes := #[66, 66] }) (hs : a.eval s = v) (hx : a.eval y = .slice (some ⟨W.heap.size, 0, none⟩) 1 c)
    (h : ∀ v' w', OwnWords w' B v' l (ws ++ [r]) → W.grownBy w' v.ownBlock → K (a.put o.dst v') w') : o.wp Tryz.prog a (W.alloc (.cells #[.string (ba (wordAt l r)), .int .i64 r.1, .int .i64 r.2] 69)) K Q := by
  obtain ⟨i0, hi, hz0, hz1, hz2⟩ := info_parts word_info
  obtain ⟨v', w', hrun, h1, h2, _, h4⟩ := run_append_own_at (P := Tryz.prog) (W.alloc (.cells #[.string (ba (wordAt l r)), .int .i64 r.1, .int .i64 r.2] 69)) B 66 o.type 69 i0 _ 3 32 Tryz.underlying66 hi hz0 hz1 hz2 rfl (by omega) v ws.length (ws.flatMap (wordCells l)) (World.ownsRow.alloc hT _) ⟨W.heap.size, 0, none⟩ 1 c (wordCells l r) rfl (World.news_of_block (MapKept.heap_alloc W _).1) (by
    intro u hu
    simp only [wordCells, List.mem_cons, List.not_mem_nil, or_false] at hu
    rcases hu with rfl | rfl | rfl <;> rfl) (by simp only [maxLen]; omega) (by omega) (by simp; omega)
  have h5 := World.grownBy_alloc W (.cells #[.string (ba (wordAt l r)), .int .i64 r.1, .int .i64 r.2] 69) v.ownBlock
  have hg : W.grownBy w' v.ownBlock := ⟨h2.os.trans h5.os, h2.tape.trans h5.tape, h2.output.trans h5.output, Nat.le_trans h5.size h2.size, fun k hk hne => (h2.block k (by simp; omega) hne).trans (h5.block k hk hne)⟩
  have hfin : OwnWords w' B v' l (ws ++ [r]) := by
    show w'.ownsRow B _ 3 v' _ _
    simpa using h1
  unfold Oper.wp execOp
  simp only [ho, resolve, invoke, builtin, Sem.run_bind, Sem.run_pure, Result.andThen_ok, List.map_toArray, List.map_cons, List.map_nil, hs, hx, hrun]
  exact h v' w' hfin hg
theorem step_pushWord {ops : Array Oper} {o : Oper} {a : Act} {W : World} {K : Act → World → Prop} {Q : Exit → Act → World → Prop} {E : Prop} {B : Nat} {v : Value} {l : List UInt8} {ws : List (Nat × Nat)} {r : Nat × Nat} (hT : OwnWords W B v l ws) (hB : B ≤ W.heap.size)
    (hlen : ws.length ≤ 1000000000) (hgd : o.guard = none) (s y : Operand) (c : Nat)
    (ho : o.op = .call { callee := .builtin .append, args := #[s, y], argTypes := #[66, 66] }) (hs : a.eval s = v) (hx : a.eval y = .slice (some ⟨W.heap.size, 0, none⟩) 1 c)
    (h : ∀ v' w', OwnWords w' B v' l (ws ++ [r]) → W.grownBy w' v.ownBlock → K (a.put o.dst v') w') :
    if Region.wanted o (yielded ops a.tmps) = true then Oper.wp Tryz.prog o a (W.alloc (.cells #[.string (ba (wordAt l r)), .int .i64 r.1, .int .i64 r.2] 69)) K Q else E := by
  have hw : Region.wanted o (yielded ops a.tmps) = true := by simp [Region.wanted, hgd]
  rw [if_pos hw]
  exact wp_pushWord hT hB hlen s y c ho hs hx h
end Go.Proofs.YtomcdhmcjndioaaGreatDoor
end
