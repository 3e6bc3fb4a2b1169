/- Layer 34: append of a whole row of terms; a cell of a row of terms written. -/
import Derived.Test.YtfinpehbpcckaaaGreatDoorM15
import Derived.Test.YtfinpehbpcckaaaGreatDoorM12
import Derived.Test.YtfinpehbpcckaaaGreatDoorM17
namespace Go.Proofs.YtfinpehbpcckaaaGreatDoor
open Go.RowKit
set_option linter.unusedVariables false

theorem add_s (a : Addr) {i : Nat} (hi : i ≠ 0) : a.add i = ⟨a.block, a.off + i, none⟩ := by unfold Addr.add; rw [if_neg hi]
theorem Trms.cells {w : World} {B m : Nat} {ad : Addr} {l : List Trm} (h : Trms w B (some ad) m l) : ∀ j u, (l.flatMap trmCells)[j]? = some u → w.cell? (ad.add j) = some u := by
  intro j u hu
  have hj : j < l.length * 3 := by have := (List.getElem?_eq_some_iff.1 hu).1; rw [trm_len] at this; exact this
  obtain ⟨k, i, hi, rfl⟩ : ∃ k i, i < 3 ∧ j = k * 3 + i := ⟨j / 3, j % 3, by omega, by omega⟩
  have hk : k < l.length := by omega
  rw [trm_get l k hk i hi] at hu
  obtain ⟨ad', e, _, c0, c1, c2, _⟩ := h.2 k hk
  injection e with e
  subst e
  rw [← add_add']
  match i, hi with
  | 0, _ =>
    have hu' : Value.int .i64 l[k].field = u := Option.some.inj hu
    subst hu'
    have e0 : (ad.add (k * 3)).add 0 = ad.add (k * 3) := by unfold Addr.add; rfl
    rw [e0]; exact c0
  | 1, _ =>
    have hu' : Value.string (ba l[k].word) = u := Option.some.inj hu
    subst hu'
    rw [add_s _ (by decide)]; exact c1
  | 2, _ =>
    have hu' : Value.string (ba l[k].list) = u := Option.some.inj hu
    subst hu'
    rw [add_s _ (by decide)]; exact c2
theorem trm_one (l : List Trm) : ∀ u ∈ l.flatMap trmCells, u.oneCell' = true := by
  intro u hu
  obtain ⟨t, _, ht⟩ := List.mem_flatMap.1 hu
  simp only [trmCells, List.mem_cons, List.not_mem_nil, or_false] at ht
  rcases ht with rfl | rfl | rfl <;> rfl
set_option maxRecDepth 100000 in
theorem run_append_noneT (w : World) (B : Nat) (t ty : TypeId) (ht : Tryz.prog.underlying t = some (.slice 47)) (v : Value) (acc : List Trm) (hown : OwnTrms w B v acc) (c : Nat) : (Builtin.append_ #[t, t] ty #[v, .slice none 0 c]).run Tryz.prog w = .ok v w := by
  obtain ⟨i0, hi, hz0, hz1, hz2⟩ := info_parts trm_info
  rcases hown.row.2 with ⟨rfl, _⟩ | ⟨g, cap, cur, rfl, _, _, hnc, _⟩
  · simp [Builtin.append_, run_underlying ht, sizeOf, typeInfo, hi, Builtin.lenOf, Builtin.firstCells]
  · simp [Builtin.append_, run_underlying ht, sizeOf, typeInfo, hi, Builtin.lenOf, Builtin.firstCells, hnc, storeCells]
set_option maxRecDepth 100000 in
theorem run_joinT (w : World) (B : Nat) (t ty : TypeId) (ht : Tryz.prog.underlying t = some (.slice 47)) (v : Value) (acc : List Trm) (hown : OwnTrms w B v acc) (hB : B ≤ w.heap.size)
    (D : Nat) (A : Option Addr) (m c : Nat) (l : List Trm) (hr : Trms w D A m l) (hlen : acc.length + m ≤ 1000000000) :
    ∃ v' w', (Builtin.append_ #[t, t] ty #[v, .slice A m c]).run Tryz.prog w = .ok v' w' ∧ OwnTrms w' B v' (acc ++ l) ∧ w.grownBy w' v.ownBlock ∧ (v'.ownBlock = v.ownBlock ∨ ∃ k, v'.ownBlock = some k ∧ w.heap.size ≤ k) := by
  obtain ⟨i0, hi, hz0, hz1, hz2⟩ := info_parts trm_info
  have hml := hr.len
  rcases A with _ | ad
  · have hl : l = [] := by
      cases l with
      | nil => rfl
      | cons a r => obtain ⟨ad, e, _⟩ := hr.2 0 (by simp); cases e
    subst hl
    obtain rfl : m = 0 := hml.symm
    exact ⟨v, w, run_append_noneT w B t ty ht v acc hown c, by simpa using hown, World.grownBy.refl w _, .inl rfl⟩
  · obtain ⟨v', w', hrun, h2, h3, _, h5⟩ := run_append_own_at (P := Tryz.prog) w B t ty 47 i0 _ 3 40 ht hi hz0 hz1 hz2 rfl (by omega) v acc.length (acc.flatMap trmCells) hown.row ad m c (l.flatMap trmCells) (by rw [trm_len, hml]) hr.cells (trm_one l) (by simp only [maxLen]; omega) (by omega) hB
    refine ⟨v', w', hrun, ⟨?_, fun t ht => ?_⟩, h3, ?_⟩
    · rw [List.flatMap_append, List.length_append, hml]; exact h2
    · rcases List.mem_append.1 ht with ht | ht
      · exact hown.each t ht
      · obtain ⟨k, hk, rfl⟩ := List.getElem_of_mem ht
        obtain ⟨_, _, _, _, _, _, hb⟩ := hr.2 k hk
        exact hb
    · rcases h5 with h | h
      · exact .inl h
      · exact .inr ⟨_, h, Nat.le_refl _⟩
theorem wp_joinT {o : Oper} {a : Act} {K : Act → World → Prop} {w : World} {Q : Exit → Act → World → Prop} {B : Nat} {v : Value} {acc : List Trm} (hown : OwnTrms w B v acc) (hB : B ≤ w.heap.size)
    {D : Nat} {A : Option Addr} {m : Nat} {l : List Trm} (hr : Trms w D A m l) (hlen : acc.length + m ≤ 1000000000) (s x : Operand) (t : TypeId) (c : Nat)
    (ho : o.op = .call { callee := .builtin .append, args := #[s, x], argTypes := #[t, t] }) (ht : Tryz.prog.underlying t = some (.slice 47)) (hs : a.eval s = v) (hx : a.eval x = .slice A m c)
    (h : ∀ v' w', OwnTrms w' B v' (acc ++ l) → w.grownBy w' v.ownBlock → (v'.ownBlock = v.ownBlock ∨ ∃ k, v'.ownBlock = some k ∧ w.heap.size ≤ k) → K (a.put o.dst v') w') : o.wp Tryz.prog a w K Q := by
  obtain ⟨v', w', hrun, h2, h3, h4⟩ := run_joinT w B t o.type ht v acc hown hB D A m c l hr hlen
  unfold Oper.wp execOp
  simp only [ho, resolve, invoke, builtin, Sem.run_bind, Sem.run_pure, Result.andThen_ok, List.map_toArray, List.map_cons, List.map_nil, hs, hx, hrun]
  exact h v' w' h2 h3 h4
theorem wpList_joinT {ops : Array Oper} {rest : List Oper} {o : Oper} {a : Act} {w : World} {Q : Exit → Act → World → Prop} {B : Nat} {v : Value} {acc : List Trm} (hown : OwnTrms w B v acc) (hB : B ≤ w.heap.size)
    {D : Nat} {A : Option Addr} {m : Nat} {l : List Trm} (hr : Trms w D A m l) (hlen : acc.length + m ≤ 1000000000) (hgd : o.guard = none) (s x : Operand) (t : TypeId) (c : Nat)
    (ho : o.op = .call { callee := .builtin .append, args := #[s, x], argTypes := #[t, t] }) (ht : Tryz.prog.underlying t = some (.slice 47)) (hs : a.eval s = v) (hx : a.eval x = .slice A m c)
    (h : ∀ v' w', OwnTrms w' B v' (acc ++ l) → w.grownBy w' v.ownBlock → (v'.ownBlock = v.ownBlock ∨ ∃ k, v'.ownBlock = some k ∧ w.heap.size ≤ k) → wpList Tryz.prog ops Q rest (a.put o.dst v') w') : wpList Tryz.prog ops Q (o :: rest) a w :=
  wpList_plain hgd fun _ hK => wp_joinT hown hB hr hlen s x t c ho ht hs hx fun v' w' h2 h3 h4 => hK _ _ (h v' w' h2 h3 h4)
theorem Trms.cutA {w : World} {B : Nat} {A : Option Addr} {m : Nat} {l : List Trm} (h : Trms w B A m l) (k : Nat) (hk : k ≤ m) : Trms w B A k (l.take k) := by
  refine ⟨by rw [List.length_take, h.len]; omega, fun j hj => ?_⟩
  rw [List.length_take] at hj
  obtain ⟨ad, e, hb, c0, c1, c2, hbd⟩ := h.2 j (by omega)
  rw [List.getElem_take]
  exact ⟨ad, e, hb, c0, c1, c2, hbd⟩
theorem Trms.cutB {w : World} {B : Nat} {ad : Addr} {m : Nat} {l : List Trm} (h : Trms w B (some ad) m l) (k : Nat) (hk : k ≤ m) : Trms w B (some (ad.add (k * 3))) (m - k) (l.drop k) := by
  refine ⟨by rw [List.length_drop, h.len], fun j hj => ?_⟩
  rw [List.length_drop] at hj
  obtain ⟨ad', e, hb, c0, c1, c2, hbd⟩ := h.2 (k + j) (by omega)
  injection e with e
  subst e
  refine ⟨_, rfl, ?_⟩
  rw [add_add', show k * 3 + j * 3 = (k + j) * 3 by omega, List.getElem_drop]
  exact ⟨hb, c0, c1, c2, hbd⟩
/-- The list of one term written. -/
theorem OwnTrms.setList {w : World} {B g n c k : Nat} {ts : List Trm} (h : OwnTrms w B (.slice (some ⟨g, 0, none⟩) n c) ts) (hk : k < ts.length) (l : List UInt8) :
    OwnTrms (w.setCell ⟨g, k * 3 + 2, none⟩ (.string (ba l))) B (.slice (some ⟨g, 0, none⟩) n c) (ts.set k { ts[k] with list := l }) := by
  obtain rfl : n = ts.length := by
    rcases h.row.2 with ⟨e, _⟩ | ⟨g', cap, cur, e, _⟩
    · cases e
    · injection e
  have hfl : ∀ (ts : List Trm) (k : Nat) (hk : k < ts.length), (ts.flatMap trmCells).set (k * 3 + 2) (.string (ba l)) = (ts.set k { ts[k] with list := l }).flatMap trmCells := by
    intro ts
    induction ts with
    | nil => intro k hk; simp at hk
    | cons a r ih =>
      intro k hk
      cases k with
      | zero => simp [trmCells]
      | succ k =>
        have := ih k (by simpa using hk)
        simp only [List.flatMap_cons, List.set_cons_succ, List.getElem_cons_succ]
        rw [List.set_append_right _ _ (by simp [trmCells]; omega), show (k + 1) * 3 + 2 - (trmCells a).length = k * 3 + 2 by simp [trmCells]; omega, this]
  refine ⟨?_, fun t ht => ?_⟩
  · rw [List.length_set, ← hfl ts k hk]
    exact ownsRow_set h.row (by rw [trm_len]; omega) _
  · rcases List.mem_or_eq_of_mem_set ht with h1 | rfl
    · exact h.each t h1
    · exact h.each ts[k] (List.getElem_mem hk)
end Go.Proofs.YtfinpehbpcckaaaGreatDoor
