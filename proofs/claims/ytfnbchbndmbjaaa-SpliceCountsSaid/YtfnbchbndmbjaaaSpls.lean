/- Splices in memory: a slice of structs whose third field is a slice of its own; what a push, a changed Drop and a longer Add do to it. -/
import Derived.Test.YtfnbchbndmbjaaaKeep
namespace Go.Proofs.Ytfnbchbndmbjaaa
open Go.RowKit
set_option linter.unusedVariables false

theorem spl_info : (Try.prog.info? 30).map (fun i => (i.zero, i.size, i.bytes)) = some (some (.agg #[.int .i64 0, .int .i64 0, .slice none 0 0]), 3, 40) := by kernel_rfl

def pcell (p : Spl × Value) : List Value := [.int .i64 p.1.at_, .int .i64 p.1.drop, p.2]
def pcells (ps : List (Spl × Value)) : List Value := ps.flatMap pcell
theorem pcells_len (ps : List (Spl × Value)) : (pcells ps).length = ps.length * 3 := by
  induction ps with
  | nil => rfl
  | cons p r ih => simp [pcells, pcell] at ih ⊢; omega
theorem pcells_append (ps qs : List (Spl × Value)) : pcells (ps ++ qs) = pcells ps ++ pcells qs := by simp [pcells]

/-- 'v' owns the splices 'ps', each beside the slice value of its Add; no two Adds share a block. -/
structure OwnPs (w : World) (B : Nat) (v : Value) (ps : List (Spl × Value)) : Prop where
  row : w.ownsRow B 30 3 v ps.length (pcells ps)
  adds : ∀ p ∈ ps, OwnInts w B p.2 p.1.add
  apart : ps.Pairwise fun p q => p.2.ownBlock = none ∨ p.2.ownBlock ≠ q.2.ownBlock

theorem ints_ne_row {w : World} {B B' : Nat} {v u : Value} {ps : List (Spl × Value)} {acc : List Int} {k : Nat} (h : w.ownsRow B 30 3 v ps.length (pcells ps)) (hi : OwnInts w B' u acc) (hk : u.ownBlock = some k) : v.ownBlock ≠ some k := by
  intro he
  rcases h.2 with ⟨rfl, _⟩ | ⟨g, cap, cur, rfl, _, hg, _⟩
  · simp [Value.ownBlock] at he
  · rcases hi.1.2 with ⟨rfl, _⟩ | ⟨g', cap', cur', rfl, _, hg', _⟩
    · simp [Value.ownBlock] at hk
    · simp only [Value.ownBlock, Option.some.injEq] at he hk
      subst he; subst hk
      rw [hg] at hg'
      injection hg' with e
      injection e with _ e _
      exact absurd e (by decide)

theorem OwnPs.nil_ (w : World) (B : Nat) : OwnPs w B (.slice none 0 0) [] := ⟨World.ownsRow_nil _ _ _ _, (fun p hp => by cases hp), List.Pairwise.nil⟩
theorem OwnPs.frame {w w' : World} {B : Nat} {v : Value} {ps : List (Spl × Value)} (h : OwnPs w B v ps) (hv : ∀ k, v.ownBlock = some k → w'.heap[k]? = w.heap[k]?) (ha : ∀ p ∈ ps, ∀ k, p.2.ownBlock = some k → w'.heap[k]? = w.heap[k]?) : OwnPs w' B v ps :=
  ⟨ownsRow_block h.row hv, fun p hp => (h.adds p hp).block (ha p hp), h.apart⟩
theorem OwnPs.below {w w' : World} {B : Nat} {v : Value} {ps : List (Spl × Value)} (h : OwnPs w B v ps) (hb : Below w.heap.size w w') : OwnPs w' B v ps :=
  h.frame (fun k hk => hb.block k (h.row.lt k hk).2) fun p hp k hk => hb.block k ((h.adds p hp).1.lt k hk).2

/-- append of one splice without insertions. -/
theorem wpList_pushS {ops : Array Oper} {rest : List Oper} {o : Oper} {a : Act} {W : World} {Q : Exit → Act → World → Prop} {B : Nat} {y : Nat} {v : Value} {ps : List (Spl × Value)} (hown : OwnPs W B v ps) (hB : B ≤ W.heap.size)
    (hlen : ps.length < 1099511627776) (hgd : o.guard = none) (s x : Operand) (t : TypeId) (c : Nat)
    (ho : o.op = .call { callee := .builtin .append, args := #[s, x], argTypes := #[t, t] }) (ht : Try.prog.underlying t = some (.slice 30))
    (hs : a.eval s = v) (hx : a.eval x = .slice (some ⟨W.heap.size, 0, none⟩) 1 c)
    (h : ∀ v' w', OwnPs w' B v' (ps ++ [(⟨y, 0, []⟩, .slice none 0 0)]) → W.grownBy w' v.ownBlock → (v'.ownBlock = v.ownBlock ∨ ∃ k, v'.ownBlock = some k ∧ W.heap.size ≤ k) → wpList Try.prog ops Q rest (a.put o.dst v') w') :
    wpList Try.prog ops Q (o :: rest) a (W.alloc (.cells #[.int .i64 y, .int .i64 0, .slice none 0 0] 30)) := by
  obtain ⟨i0, hi, hz0, hz1, hz2⟩ := info_parts spl_info
  refine wpList_append_own_at _ hgd s x t ho B 30 i0 _ 3 40 ht hi hz0 hz1 hz2 rfl (by omega) v ps.length (pcells ps) hs (hown.row.alloc _) ⟨W.heap.size, 0, none⟩ 1 c [.int .i64 y, .int .i64 0, .slice none 0 0] hx rfl ?_ ?_ (by simp only [maxLen]; omega) (by omega) (by simp; omega) ?_
  · intro j u hu
    have hadd : (⟨W.heap.size, 0, none⟩ : Addr).add j = ⟨W.heap.size, j, none⟩ := by unfold Addr.add; split <;> simp_all
    rw [hadd, World.cell?_alloc_at _ _ _ _ rfl]
    simpa using hu
  · intro u hu; simp at hu; rcases hu with rfl | rfl | rfl <;> rfl
  · intro v' w' h1 h2 _ h4
    have h5 := World.grownBy_alloc W (.cells #[.int .i64 y, .int .i64 0, .slice none 0 0] 30) v.ownBlock
    have hg : W.grownBy w' v.ownBlock := ⟨h2.os.trans h5.os, h2.tape.trans h5.tape, h2.output.trans h5.output, Nat.le_trans h5.size h2.size, fun k hk hne => (h2.block k (by simp; omega) hne).trans (h5.block k hk hne)⟩
    refine h v' w' ⟨?_, fun p hp => ?_, ?_⟩ hg ?_
    · rw [pcells_append]
      simpa [pcells, pcell] using h1
    · rcases List.mem_append.1 hp with hp | hp
      · exact (hown.adds p hp).block fun k hk => hg.block k ((hown.adds p hp).1.lt k hk).2 (fun e => ints_ne_row hown.row (hown.adds p hp) hk e.symm)
      · rw [List.mem_singleton] at hp; subst hp; exact OwnInts.nil_ _ _
    · refine List.pairwise_append.2 ⟨hown.apart, List.pairwise_singleton _ _, fun p _ q hq => ?_⟩
      rw [List.mem_singleton] at hq; subst hq
      by_cases e : p.2.ownBlock = none
      · exact .inl e
      · exact .inr (fun h => e (h.trans rfl))
    · rcases h4 with h4 | h4
      · exact .inl h4
      · exact .inr ⟨_, h4, by simp⟩

theorem set_mid (l : List Value) (x y z u : Value) : (l ++ [x, y, z]).set (l.length + 1) u = l ++ [x, u, z] ∧ (l ++ [x, y, z]).set (l.length + 2) u = l ++ [x, y, u] := by
  constructor
  · rw [List.set_append_right _ _ (by omega), show l.length + 1 - l.length = 1 from by omega]; rfl
  · rw [List.set_append_right _ _ (by omega), show l.length + 2 - l.length = 2 from by omega]; rfl

/-- One more deletion in the last splice. -/
theorem OwnPs.dropped {w : World} {B g c : Nat} {ps : List (Spl × Value)} {s : Spl} {a : Value} (h : OwnPs w B (.slice (some ⟨g, 0, none⟩) (ps.length + 1) c) (ps ++ [(s, a)])) :
    OwnPs (w.setCell ⟨g, ps.length * 3 + 1, none⟩ (.int .i64 ((s.drop : Int) + 1))) B (.slice (some ⟨g, 0, none⟩) (ps.length + 1) c) (ps ++ [({ s with drop := s.drop + 1 }, a)]) := by
  have hrow := h.row
  have hl : (ps ++ [(s, a)]).length = ps.length + 1 := by simp
  rw [hl] at hrow
  have h1 := (hrow.stored (ps.length * 3 + 1) (.int .i64 ((s.drop : Int) + 1))).1
  have hne : ∀ p ∈ ps ++ [(s, a)], ∀ k, p.2.ownBlock = some k → k ≠ g := fun p hp k hk e => ints_ne_row h.row (h.adds p hp) hk (by rw [e]; rfl)
  refine ⟨?_, fun p hp => ?_, ?_⟩
  · rw [pcells_append] at h1 ⊢
    rw [show ps.length * 3 = (pcells ps).length from (pcells_len ps).symm] at h1
    have e := (set_mid (pcells ps) (.int .i64 s.at_) (.int .i64 s.drop) a (.int .i64 ((s.drop : Int) + 1))).1
    simp only [pcells, pcell, List.flatMap_cons, List.flatMap_nil, List.append_nil] at h1 e ⊢
    rw [e] at h1
    rw [← pcells, ← pcells_len ps]
    simpa [pcells] using h1
  · rcases List.mem_append.1 hp with hp | hp
    · exact (h.adds p (List.mem_append_left _ hp)).block fun k hk => Below.heap_setCell _ _ _ _ (hne p (List.mem_append_left _ hp) k hk)
    · rw [List.mem_singleton] at hp; subst hp
      have := h.adds (s, a) (by simp)
      exact this.block fun k hk => Below.heap_setCell _ _ _ _ (hne (s, a) (by simp) k hk)
  · have := h.apart
    rw [List.pairwise_append] at this ⊢
    exact ⟨this.1, List.pairwise_singleton _ _, fun p hp q hq => by rw [List.mem_singleton] at hq; subst hq; exact this.2.2 p hp (s, a) (by simp)⟩

/-- One more insertion in the last splice. -/
theorem OwnPs.added {w w1 : World} {B g c : Nat} {ps : List (Spl × Value)} {s : Spl} {a a' : Value} {n : Int} (h : OwnPs w B (.slice (some ⟨g, 0, none⟩) (ps.length + 1) c) (ps ++ [(s, a)]))
    (hown : OwnInts w1 B a' (s.add ++ [n])) (hg : w.grownBy w1 a.ownBlock) (hat : a'.ownBlock = a.ownBlock ∨ ∃ k, a'.ownBlock = some k ∧ w.heap.size ≤ k) :
    OwnPs (w1.setCell ⟨g, ps.length * 3 + 2, none⟩ a') B (.slice (some ⟨g, 0, none⟩) (ps.length + 1) c) (ps ++ [({ s with add := s.add ++ [n] }, a')]) := by
  have hl : (ps ++ [(s, a)]).length = ps.length + 1 := by simp
  have hapart := h.apart
  rw [List.pairwise_append] at hapart
  have hne : ∀ p ∈ ps ++ [(s, a)], ∀ k, p.2.ownBlock = some k → k ≠ g := fun p hp k hk e => ints_ne_row h.row (h.adds p hp) hk (by rw [e]; rfl)
  have hglt := (h.row.lt g rfl).2
  have hag : a.ownBlock ≠ some g := fun e => ints_ne_row h.row (h.adds (s, a) (by simp)) e rfl
  have hrow := (ownsRow_block h.row (w' := w1) fun k hk => by
    have e : g = k := by simpa [Value.ownBlock] using hk
    subst e
    exact hg.block _ hglt (fun e => hag e.symm))
  rw [hl] at hrow
  have h1 := (hrow.stored (ps.length * 3 + 2) a').1
  have hpk : ∀ p ∈ ps, ∀ k, p.2.ownBlock = some k → w1.heap[k]? = w.heap[k]? := fun p hp k hk =>
    hg.block k ((h.adds p (List.mem_append_left _ hp)).1.lt k hk).2 (fun e => by
      rcases hapart.2.2 p hp (s, a) (by simp) with h2 | h2
      · rw [h2] at hk; cases hk
      · exact h2 (hk.trans e))
  refine ⟨?_, fun p hp => ?_, ?_⟩
  · rw [pcells_append] at h1 ⊢
    rw [show ps.length * 3 = (pcells ps).length from (pcells_len ps).symm] at h1
    have e := (set_mid (pcells ps) (.int .i64 s.at_) (.int .i64 s.drop) a a').2
    simp only [pcells, pcell, List.flatMap_cons, List.flatMap_nil, List.append_nil] at h1 e ⊢
    rw [e] at h1
    rw [← pcells, ← pcells_len ps]
    simpa [pcells] using h1
  · rcases List.mem_append.1 hp with hp | hp
    · exact (h.adds p (List.mem_append_left _ hp)).block fun k hk => (Below.heap_setCell _ _ _ _ (hne p (List.mem_append_left _ hp) k hk)).trans (hpk p hp k hk)
    · rw [List.mem_singleton] at hp; subst hp
      refine hown.block fun k hk => Below.heap_setCell _ _ _ _ ?_
      rcases hat with e | ⟨k', e, hk'⟩
      · rw [e] at hk; exact hne (s, a) (by simp) k hk
      · rw [e] at hk; injection hk with hk; subst hk
        intro e2
        have e3 : k' = g := e2
        omega
  · rw [List.pairwise_append]
    refine ⟨hapart.1, List.pairwise_singleton _ _, fun p hp q hq => ?_⟩
    rw [List.mem_singleton] at hq; subst hq
    rcases hat with e | ⟨k', e, hk'⟩
    · have := hapart.2.2 p hp (s, a) (by simp)
      simpa [e] using this
    · by_cases e0 : p.2.ownBlock = none
      · exact .inl e0
      · right
        rw [e]
        intro e1
        have := ((h.adds p (List.mem_append_left _ hp)).1.lt k' e1).2
        omega
end Go.Proofs.Ytfnbchbndmbjaaa
