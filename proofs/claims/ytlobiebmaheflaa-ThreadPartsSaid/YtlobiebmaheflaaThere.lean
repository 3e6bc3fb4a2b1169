/- Rows of operations that a law keeps; what they say of the messages. -/
import Derived.Test.YtlobiebmaheflaaTells
namespace Go.Proofs.Ytlobiebmaheflaa
open Go.RowKit
set_option linter.unusedVariables false

theorem deed_info : (Try.prog.info? 34).map (fun i => (i.zero, i.size, i.bytes)) = some (some (.agg #[.int .i64 0, .int .i64 0, .string ⟨#[]⟩, .slice none 0 0, .string ⟨#[]⟩]), 5, 72) := by kernel_rfl
def deedCells (p : Deed × Value) : List Value := [.int .i64 p.1.do_, .int .i64 p.1.id, .string p.1.own, p.2, .string p.1.base]
def KeptDeed (w0 : World) (p : Deed × Value) : Prop := p.1.Fit ∧ p.1.refs.length ≤ 8 ∧ ∃ RA rn rc, p.2 = .slice RA rn rc ∧ RefsIn w0 w0.heap.size RA rn rc p.1.refs
/-- The slice v owns the operations ps, in a row of its own from B on; what they refer to was there in w0. -/
structure There (w0 w : World) (B : Nat) (v : Value) (ps : List (Deed × Value)) : Prop where
  row : w.ownsRow B 34 5 v ps.length (ps.flatMap deedCells)
  each : ∀ p, p ∈ ps → KeptDeed w0 p
theorem There.nil_ (w0 w : World) (B : Nat) : There w0 w B (.slice none 0 0) [] := ⟨World.ownsRow_nil _ _ _ _, fun p hp => by cases hp⟩
theorem There.block {w0 w w' : World} {B : Nat} {v : Value} {ps : List (Deed × Value)} (h : There w0 w B v ps) (hb : ∀ b, v.ownBlock = some b → w'.heap[b]? = w.heap[b]?) : There w0 w' B v ps := ⟨ownsRow_block h.row hb, h.each⟩
theorem There.more {w0 w : World} {B B' : Nat} {v : Value} {ps : List (Deed × Value)} (h : There w0 w B v ps) (hB : B' ≤ B) : There w0 w B' v ps := by
  obtain ⟨⟨h0, h1⟩, h2⟩ := h
  refine ⟨⟨h0, ?_⟩, h2⟩
  rcases h1 with h1 | ⟨g, cap, cur, e, hb, r⟩
  · exact .inl h1
  · exact .inr ⟨g, cap, cur, e, by omega, r⟩
theorem deed_len : ∀ ps : List (Deed × Value), (ps.flatMap deedCells).length = ps.length * 5 := fun l => by induction l with | nil => rfl | cons a r ih => simp [deedCells] at ih ⊢; omega
theorem deed_get : ∀ (l : List (Deed × Value)) j (hj : j < l.length) i (hi : i < 5), (l.flatMap deedCells)[j * 5 + i]? = (deedCells l[j])[i]? := fun l => by
  induction l with
  | nil => intro j hj; simp at hj
  | cons a r ih =>
    intro j hj i hi
    cases j with
    | zero =>
      simp only [List.flatMap_cons, List.getElem_cons_zero, Nat.zero_mul, Nat.zero_add]
      rw [List.getElem?_append_left (by simp [deedCells]; omega)]
    | succ j =>
      have := ih j (by simpa using hj) i hi
      simp only [List.flatMap_cons, List.getElem_cons_succ]
      rw [List.getElem?_append_right (by simp [deedCells]; omega), show (j + 1) * 5 + i - (deedCells a).length = j * 5 + i by simp [deedCells]; omega]
      exact this
theorem There.at_ {w0 w : World} {B : Nat} {v : Value} {ps : List (Deed × Value)} (h : There w0 w B v ps) : ∃ A cap, v = .slice A ps.length cap ∧ ps.length ≤ cap ∧ cap ≤ maxLen ∧ ∀ j (hj : j < ps.length), ∃ g, A = some ⟨g, 0, none⟩ ∧ v.ownBlock = some g ∧ g < w.heap.size ∧
    w.cell? ⟨g, j * 5, none⟩ = some (.int .i64 ps[j].1.do_) ∧ w.cell? ⟨g, j * 5 + 1, none⟩ = some (.int .i64 ps[j].1.id) ∧ w.cell? ⟨g, j * 5 + 2, none⟩ = some (.string ps[j].1.own) ∧ w.cell? ⟨g, j * 5 + 3, none⟩ = some ps[j].2 ∧ w.cell? ⟨g, j * 5 + 4, none⟩ = some (.string ps[j].1.base) := by
  have h1 := h.row
  rcases h1.2 with ⟨rfl, h0⟩ | ⟨g, cap, cur, rfl, hb, hg, q1, q2, q3⟩
  · exact ⟨none, 0, by rw [h0], by omega, by simp, fun j hj => by omega⟩
  · refine ⟨_, cap, rfl, q1, q2, fun j hj => ⟨g, rfl, rfl, heap_lt hg, ?_⟩⟩
    have hc : ∀ i u, i < 5 → (deedCells ps[j])[i]? = some u → w.cell? ⟨g, j * 5 + i, none⟩ = some u := fun i u hi hu => by
      have := h1.cells (g := g) rfl (j * 5 + i) u (by rw [deed_get ps j hj i hi]; exact hu)
      unfold Addr.add at this
      by_cases e : j * 5 + i = 0
      · rw [if_pos e] at this; rw [e]; exact this
      · rw [if_neg e] at this; rw [Nat.zero_add] at this; exact this
    exact ⟨hc 0 _ (by omega) rfl, hc 1 _ (by omega) rfl, hc 2 _ (by omega) rfl, hc 3 _ (by omega) rfl, hc 4 _ (by omega) rfl⟩

/-- append of one operation onto a row of the law's own. -/
theorem wpList_deed {ops : Array Oper} {rest : List Oper} {o : Oper} {a : Act} {w0 W : World} {Q : Exit → Act → World → Prop} {B : Nat} {v : Value} {ps : List (Deed × Value)} {d : Deed} {RA : Option Addr} {rn rc : Nat} (hT : There w0 W B v ps) (hB : B ≤ W.heap.size)
    (hk : KeptDeed w0 (d, .slice RA rn rc)) (hlen : ps.length ≤ 1000000) (hgd : o.guard = none) (s x : Operand) (c : Nat)
    (ho : o.op = .call { callee := .builtin .append, args := #[s, x], argTypes := #[22, 22] }) (hs : a.eval s = v) (hx : a.eval x = .slice (some ⟨W.heap.size, 0, none⟩) 1 c)
    (h : ∀ A n cap w', n = ps.length + 1 → There w0 w' B (.slice A n cap) (ps ++ [(d, .slice RA rn rc)]) → W.grownBy w' v.ownBlock → ((Value.slice A n cap).ownBlock = v.ownBlock ∨ ∃ k, (Value.slice A n cap).ownBlock = some k ∧ W.heap.size ≤ k) → wpList Try.prog ops Q rest (a.put o.dst (.slice A n cap)) w') :
    wpList Try.prog ops Q (o :: rest) a (W.alloc (.cells #[.int .i64 d.do_, .int .i64 d.id, .string d.own, .slice RA rn rc, .string d.base] 34)) := by
  obtain ⟨i0, hi, hz0, hz1, hz2⟩ := info_parts deed_info
  refine wpList_append_own_at _ hgd s x 22 ho B 34 i0 _ 5 72 Try.underlying22 hi hz0 hz1 hz2 rfl (by omega) v ps.length (ps.flatMap deedCells) hs (hT.row.alloc _) ⟨W.heap.size, 0, none⟩ 1 c (deedCells (d, .slice RA rn rc)) hx rfl (World.news_of_block (MapKept.heap_alloc W _).1) ?_ (by simp only [maxLen]; omega) (by omega) (by simp; omega) ?_
  · intro u hu
    simp only [deedCells, List.mem_cons, List.not_mem_nil, or_false] at hu
    rcases hu with rfl | rfl | rfl | rfl | rfl <;> rfl
  · intro v' w' h1 h2 _ h4
    have h5 := World.grownBy_alloc W (.cells #[.int .i64 d.do_, .int .i64 d.id, .string d.own, .slice RA rn rc, .string d.base] 34) v.ownBlock
    have hT' : There w0 w' B v' (ps ++ [(d, .slice RA rn rc)]) := ⟨by simpa using h1, fun p hp => by rcases List.mem_append.1 hp with hp | hp; exact hT.each p hp; rw [List.mem_singleton.1 hp]; exact hk⟩
    obtain ⟨A, cap, e, -⟩ := hT'.at_
    subst e
    refine h A _ cap w' (by simp) hT' ⟨h2.os.trans h5.os, h2.tape.trans h5.tape, h2.output.trans h5.output, Nat.le_trans h5.size h2.size, fun k hk hne => (h2.block k (by simp; omega) hne).trans (h5.block k hk hne)⟩ ?_
    rcases h4 with h4 | h4
    · exact .inl h4
    · exact .inr ⟨_, h4, by simp⟩

/-- The message of an operation. -/
def msgOf (a : Deed) : Msg := ⟨a.id, idsOf a.own a.refs, a.base⟩
/-- The operations ds have left the messages L. -/
structure Match (ds : List Deed) (L : List Msg) : Prop where
  mem : ∀ m, m ∈ L ↔ ∃ a, a ∈ ds ∧ msgOf a = m
  ne : ds.Pairwise fun a b => a.id ≠ b.id
  pos : ∀ a, a ∈ ds → 1 ≤ a.id ∧ a.do_ ≠ 1
theorem Match.nil_ : Match [] [] := ⟨fun m => by simp, List.Pairwise.nil, fun a h => by cases h⟩
theorem err0 {L : List Msg} {i : Int} : addErr L i = 0 ↔ 1 ≤ i ∧ ∀ m, m ∈ L → m.id ≠ i := by
  unfold addErr
  by_cases h1 : i < 1
  · rw [if_pos h1]; constructor
    · intro h; cases h
    · intro h; omega
  · rw [if_neg h1]
    by_cases h2 : ∃ m, m ∈ L ∧ m.id = i
    · rw [if_pos h2]; constructor
      · intro h; cases h
      · rintro ⟨_, h⟩; obtain ⟨m, hm, e⟩ := h2; exact absurd e (h m hm)
    · rw [if_neg h2]
      exact ⟨fun _ => ⟨by omega, fun m hm e => h2 ⟨m, hm, e⟩⟩, fun _ => rfl⟩
theorem Match.add {ds : List Deed} {L : List Msg} (h : Match ds L) {a : Deed} (h1 : a.do_ ≠ 1) (he : stepErr L a = 0) : Match (ds ++ [a]) (stepL L a) := by
  unfold stepErr at he
  rw [if_neg h1] at he
  obtain ⟨hp, hn⟩ := err0.1 he
  have e : stepL L a = ins (msgOf a) L := by
    unfold stepL addL
    rw [if_neg h1, if_pos he]; rfl
  rw [e]
  refine ⟨fun m => ?_, ?_, fun b hb => ?_⟩
  · rw [mem_ins, h.mem]
    constructor
    · rintro (rfl | ⟨b, hb, rfl⟩)
      · exact ⟨a, by simp, rfl⟩
      · exact ⟨b, by simp [hb], rfl⟩
    · rintro ⟨b, hb, rfl⟩
      rcases List.mem_append.1 hb with hb | hb
      · exact .inr ⟨b, hb, rfl⟩
      · rw [List.mem_singleton.1 hb]; exact .inl rfl
  · rw [List.pairwise_append]
    refine ⟨h.ne, by simp, fun b hb c hc e => ?_⟩
    rw [List.mem_singleton.1 hc] at e
    exact hn _ ((h.mem _).2 ⟨b, hb, rfl⟩) e
  · rcases List.mem_append.1 hb with hb | hb
    · exact h.pos b hb
    · rw [List.mem_singleton.1 hb]; exact ⟨hp, h1⟩
theorem Match.push {ds : List Deed} {L : List Msg} {a : Deed} (h : Match ds L) (h1 : a.do_ ≠ 1) (hp : 1 ≤ a.id) (hne : ∀ b, b ∈ ds → a.id ≠ b.id) : stepErr L a = 0 ∧ Match (a :: ds) (stepL L a) := by
  have he : stepErr L a = 0 := by
    unfold stepErr
    rw [if_neg h1]
    exact err0.2 ⟨hp, fun m hm e => by obtain ⟨b, hb, rfl⟩ := (h.mem m).1 hm; exact hne b hb e.symm⟩
  have h2 := h.add h1 he
  refine ⟨he, ⟨fun m => ?_, ?_, fun b hb => h2.pos b (by simp at hb ⊢; exact hb.symm)⟩⟩
  · rw [h2.mem]
    constructor
    · rintro ⟨b, hb, rfl⟩; exact ⟨b, by simp at hb ⊢; exact hb.symm, rfl⟩
    · rintro ⟨b, hb, rfl⟩; exact ⟨b, by simp at hb ⊢; exact hb.symm, rfl⟩
  · rw [List.pairwise_cons]; exact ⟨fun b hb => hne b hb, h.ne⟩
theorem Match.same {ds : List Deed} {L : List Msg} (h : Match ds L) {a : Deed} (h1 : a.do_ ≠ 1) (he : stepErr L a ≠ 0) : Match ds (stepL L a) := by
  unfold stepErr at he
  rw [if_neg h1] at he
  have e : stepL L a = L := by
    unfold stepL addL
    rw [if_neg h1, if_neg he]
  rw [e]; exact h
theorem Match.del {ds : List Deed} {L : List Msg} (h : Match ds L) {a : Deed} (h1 : a.do_ = 1) : Match (ds.filter fun b => b.id != a.id) (stepL L a) := by
  have e : stepL L a = Ytlobiebmaheflaa.del a.id L := by unfold stepL; rw [if_pos h1]
  rw [e]
  refine ⟨fun m => ?_, h.ne.filter _, fun b hb => h.pos b (List.mem_filter.1 hb).1⟩
  rw [mem_del, h.mem]
  constructor
  · rintro ⟨⟨b, hb, rfl⟩, hne⟩
    exact ⟨b, List.mem_filter.2 ⟨hb, by simpa [msgOf] using hne⟩, rfl⟩
  · rintro ⟨b, hb, rfl⟩
    obtain ⟨hb, hne⟩ := List.mem_filter.1 hb
    exact ⟨⟨b, hb, rfl⟩, by simpa [msgOf] using hne⟩
theorem Match.ok {ds : List Deed} {L : List Msg} (h : Match ds L) {a : Deed} (h1 : a.do_ = 1) : stepOk L a = decide ((ds.filter fun b => b.id != a.id).length < ds.length) := by
  unfold stepOk
  rw [if_pos h1]
  by_cases hx : ∃ m, m ∈ L ∧ m.id = a.id
  · rw [decide_eq_true hx]
    symm
    refine decide_eq_true ?_
    obtain ⟨m, hm, e⟩ := hx
    obtain ⟨b, hb, rfl⟩ := (h.mem m).1 hm
    refine List.length_filter_lt_length_iff_exists.2 ⟨b, hb, ?_⟩
    simp only [bne_iff_ne, ne_eq, Classical.not_not]
    exact e
  · rw [decide_eq_false hx]
    symm
    refine decide_eq_false ?_
    rw [List.length_filter_lt_length_iff_exists]
    rintro ⟨b, hb, e⟩
    simp only [bne_iff_ne, ne_eq, Classical.not_not] at e
    exact hx ⟨msgOf b, (h.mem _).2 ⟨b, hb, rfl⟩, e⟩
theorem Match.inj {ds ds' : List Deed} {L L' : List Msg} (h : Match ds L) (h' : Match ds' L') (hL : Asc L) (hL' : Asc L') (hd : ∀ a, a ∈ ds ↔ a ∈ ds') : L = L' :=
  asc_msgs hL hL' fun m => by
    rw [h.mem, h'.mem]
    exact ⟨fun ⟨a, ha, e⟩ => ⟨a, (hd a).1 ha, e⟩, fun ⟨a, ha, e⟩ => ⟨a, (hd a).2 ha, e⟩⟩
end Go.Proofs.Ytlobiebmaheflaa
