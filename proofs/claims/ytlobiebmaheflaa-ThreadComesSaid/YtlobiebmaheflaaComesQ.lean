/- ThreadComes: what stays in memory while a message comes and goes. -/
import Derived.Test.YtlobiebmaheflaaComesP
import Derived.Test.YtlobiebmaheflaaHolds
import Derived.Test.YtlobiebmaheflaaOrder
namespace Go.Proofs.Ytlobiebmaheflaa
open Go.RowKit
set_option linter.unusedVariables false

/-- A slice of non-empty lists in the blocks from lo to hi. -/
def RowsIn (w : World) (lo hi : Nat) (v : Value) (ll : List (List Int)) : Prop := ∃ A cap, v = .slice A ll.length cap ∧ ll.length ≤ cap ∧ cap ≤ maxLen ∧
  ∀ k (hk : k < ll.length), ∃ g gx xc, A = some ⟨g, 0, none⟩ ∧ w.cell? ⟨g, k, none⟩ = some (.slice (some ⟨gx, 0, none⟩) ll[k].length xc) ∧ ll[k].length ≤ xc ∧ xc ≤ maxLen ∧ lo ≤ g ∧ g < hi ∧ lo ≤ gx ∧ gx < hi ∧ ∀ t (ht : t < ll[k].length), w.cell? ⟨gx, t, none⟩ = some (.int .i64 ll[k][t])
theorem OwnRows.rowsIn {w : World} {B : Nat} {v : Value} {ll : List (List Int)} (h : OwnRows w B v ll) (hne : ∀ l, l ∈ ll → l ≠ []) : RowsIn w B w.heap.size v ll := by
  obtain ⟨A, cap, e, h1, h2, h3⟩ := h.cells
  exact ⟨A, cap, e, h1, h2, fun k hk => h3 k hk (hne _ (List.getElem_mem hk))⟩
theorem RowsIn.keep {w w' : World} {lo hi : Nat} {v : Value} {ll : List (List Int)} (h : RowsIn w lo hi v ll) (hb : ∀ b, lo ≤ b → b < hi → w'.heap[b]? = w.heap[b]?) : RowsIn w' lo hi v ll := by
  obtain ⟨A, cap, e, h1, h2, h3⟩ := h
  refine ⟨A, cap, e, h1, h2, fun k hk => ?_⟩
  obtain ⟨g, gx, xc, q1, q2, q3, q4, q5, q6, q7, q8, q9⟩ := h3 k hk
  exact ⟨g, gx, xc, q1, (World.cell?_of_block (a := ⟨g, k, none⟩) (hb g q5 q6)).trans q2, q3, q4, q5, q6, q7, q8, fun t ht => (World.cell?_of_block (a := ⟨gx, t, none⟩) (hb gx q7 q8)).trans (q9 t ht)⟩
theorem RowsIn.lists {w : World} {lo hi : Nat} {v : Value} {ll : List (List Int)} (h : RowsIn w lo hi v ll) (hhi : hi ≤ w.heap.size) (hlen : ∀ l, l ∈ ll → l.length ≤ 1000000) (h64 : ∀ l, l ∈ ll → I64s l) : ∃ A c, v = .slice A ll.length c ∧ ll.length ≤ c ∧ c ≤ maxLen ∧ Lists w A ll.length ll := by
  obtain ⟨A, cap, e, h1, h2, h3⟩ := h
  refine ⟨A, cap, e, h1, h2, rfl, fun k hk => ?_⟩
  obtain ⟨g, gx, xc, q1, q2, q3, q4, q5, q6, q7, q8, q9⟩ := h3 k hk
  refine ⟨_, some ⟨gx, 0, none⟩, ll[k].length, xc, q1, by show g < _; omega, ?_, hlen _ (List.getElem_mem hk), rfl, h64 _ (List.getElem_mem hk), .inr ⟨_, rfl, by show gx < _; omega, fun j u hu => ?_⟩⟩
  · by_cases e0 : k = 0
    · subst e0; simpa [Addr.add] using q2
    · simpa [Addr.add, e0] using q2
  · have hj : j < ll[k].length := by
      have := (List.getElem?_eq_some_iff.1 hu).1
      simpa [iv] using this
    have eu : u = .int .i64 ll[k][j] := by simp [iv, hj] at hu; exact hu.symm
    rw [eu]
    by_cases e0 : j = 0
    · subst e0; simpa [Addr.add] using q9 0 hj
    · simpa [Addr.add, e0] using q9 j hj

theorem th_ids {w : World} {tag : Nat → Tag} {hd c : Nat} {L : List Msg} (h : Th w tag hd L c) : ∀ m, m ∈ L → I64 m.id := by
  obtain ⟨nd, N, T, nm, live, num, tm, up, root, dep, grp, tl, hp, rfl⟩ := h
  intro m hm
  obtain ⟨g, hg⟩ := mem_msgs.1 hm
  have := hp.fine m g hg
  exact ⟨by omega, this.2.1⟩
/-- The set, a copy of it, and what All told ahead. -/
structure CState (w0 w : World) (tag : Nat → Tag) (hd : Nat) (L : List Msg) (c : Nat) (tagC : Nat → Tag) (hdC : Nat) (LC : List Msg) (cC : Nat) (lo hi : Nat) (v : Value) : Prop where
  pair : Pair w0 w tag hd L c tagC hdC LC cC
  was : RowsIn w lo hi v (allOf LC)
  inn : hi ≤ w.heap.size
  outT : ∀ b, lo ≤ b → b < hi → tag b = tOut
section
variable {w0 w w' : World} {tag tag2 tagC : Nat → Tag} {hd hdC : Nat} {L L2 LC : List Msg} {c c2 cC lo hi : Nat} {v : Value}
theorem CState.below (h : CState w0 w tag hd L c tagC hdC LC cC lo hi v) (hb : Below w.heap.size w w') : CState w0 w' tag hd L c tagC hdC LC cC lo hi v :=
  ⟨h.pair.below hb, h.was.keep fun b _ hl => hb.block b (Nat.lt_of_lt_of_le hl h.inn), Nat.le_trans h.inn hb.size, h.outT⟩
theorem CState.turn (h : CState w0 w tag hd L c tagC hdC LC cC lo hi v) (hT : Th w' tag2 hd L2 c2) (hO : Off (Mut tag) w w') (hG : Grows w tag tag2) : CState w0 w' tag2 hd L2 c2 tagC hdC LC cC lo hi v :=
  ⟨h.pair.turn hT hO hG, h.was.keep fun b h1 hl => hO.block b (Nat.lt_of_lt_of_le hl h.inn) fun hm => hm.1 (h.outT b h1 hl), Nat.le_trans h.inn hO.size, fun b h1 hl => (hG b (Nat.lt_of_lt_of_le hl h.inn)).1 (h.outT b h1 hl)⟩
theorem CState.stay (h : CState w0 w tag hd L c tagC hdC LC cC lo hi v) (hT : Th w' tag hd L2 c2) (hO : Off (Mut tag) w w') : CState w0 w' tag hd L2 c2 tagC hdC LC cC lo hi v := h.turn hT hO (Grows.refl _ _)
end

/-- The world behind the law's first statements: the message's box, its kind set to 0. -/
theorem come_base {w w1 w2 : World} {e : Ending} {d i r : Value} {o b : Value} (hb : Below (w.alloc (.cells #[d, i, o, r, b] 34)).heap.size (w.alloc (.cells #[d, i, o, r, b] 34)) w1) (hN : NewPost w1 e w2) :
    One (w.alloc (.cells #[.int .i64 0, i, o, r, b] 34)) (w2.setCell ⟨w.heap.size, 0, none⟩ (.int .i64 0)) (newTag w1.heap.size) (w1.heap.size + 2) [] 0 := by
  have h2 := One.new hb hN
  have hO2 : Off (fun k => k = w.heap.size) w2 (w2.setCell ⟨w.heap.size, 0, none⟩ (.int .i64 0)) := (Off.refl (fun k => k = w.heap.size) w2).setCell (p := ⟨w.heap.size, 0, none⟩) (.inl rfl) _
  have hs : w.heap.size < (w.alloc (.cells #[d, i, o, r, b] 34)).heap.size := by simp
  refine ⟨h2.th.off hO2 fun k e => by subst e; exact h2.old _ hs, fun k hk => h2.old k (by simpa using hk), h2.bel.os, h2.bel.tape, h2.bel.output, ?_, fun k hk => ?_⟩
  · have := h2.bel.size; simp [World.setCell] at this ⊢; exact this
  · have hk' : k < w.heap.size + 1 := by simpa using hk
    by_cases e : k = w.heap.size
    · subst e
      have e1 := (h2.bel.block w.heap.size hs).trans (MapKept.heap_alloc w (.cells #[d, i, o, r, b] 34)).1
      have e2 := heap_setCell_same w2 w.heap.size 0 _ 34 (.int .i64 0) e1
      rw [e2, (MapKept.heap_alloc w _).1]; rfl
    · rw [hO2.block k (by have := h2.bel.size; simp at this; omega) e, h2.bel.block k (by simp; omega), (MapKept.heap_alloc w _).2 k (by omega), (MapKept.heap_alloc w _).2 k (by omega)]
theorem inSum_le (L' : List Msg) (i : Int) (l : List (List Int)) : inSum L' i l ≤ l.flatten.length := by
  induction l with
  | nil => exact Nat.le_refl _
  | cons a r ih =>
    simp only [inSum, List.flatten_cons, List.length_append]
    split <;> omega
theorem outSum_le (L' : List Msg) (i : Int) (l : List (List Int)) : outSum L' i l ≤ l.length := by
  induction l with
  | nil => exact Nat.le_refl _
  | cons a r ih =>
    simp only [outSum, List.length_cons]
    split <;> omega
theorem sum_take (L' : List Msg) (i : Int) {l : List (List Int)} {q : Nat} (hq : q < l.length) : inSum L' i (l.take (q + 1)) = inSum L' i (l.take q) + (if joins L' i l[q] = true then l[q].length else 0) ∧ outSum L' i (l.take (q + 1)) = outSum L' i (l.take q) + (if joins L' i l[q] = true then 0 else 1) := by
  rw [List.take_succ_eq_append_getElem hq]
  exact ⟨inSum_snoc _ _ _ _, outSum_snoc _ _ _ _⟩
theorem take_flat (l : List (List Int)) (q : Nat) : (l.take q).flatten.length ≤ l.flatten.length := by
  conv => rhs; rw [← List.take_append_drop q l, List.flatten_append, List.length_append]
  omega
end Go.Proofs.Ytlobiebmaheflaa
