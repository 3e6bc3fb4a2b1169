/- The reference's New; plain facts of its search. -/
import Derived.Test.YtlobiebmaheflaaRAdd
import Derived.Test.YtlobiebmaheflaaOwn
namespace Go.Proofs.Ytlobiebmaheflaa
open Go.RowKit
set_option linter.unusedVariables false

def RNewPost (w : World) (G : Nat → Prop) (e : Ending) (w' : World) : Prop :=
  e = .returned (.pointer (some ⟨w.heap.size, 0, none⟩)) ∧ RefW w' G w.heap.size [] ∧ Below w.heap.size w w'
theorem rnew_any (w : World) {G : Nat → Prop} (hG : ∀ b, w.heap.size ≤ b → G b) : Calls Try.prog 9 #[] w (RNewPost w G) := by
  go_enter Try.func9, Try.ntmps9
  go_wp2
  go_ret
  refine ⟨rfl, ⟨⟨.slice none 0 0, [], (MapKept.heap_alloc w _).1, ⟨World.ownsRow_nil _ _ _ _, (fun b e => by cases e), fun p hp => by cases hp⟩, rfl⟩, hG _ (Nat.le_refl _), fun b hb => hG b (by simp at hb; omega), List.Pairwise.nil⟩, (Below.refl _ _).alloc (Nat.le_refl _) _⟩

/-- The state of the search: the row so far, the first 'at' of it searched. -/
structure Search (L : List Msg) (k : Nat) (row : List Nat) (at_ : Nat) : Prop where
  nodup : row.Nodup
  lt : ∀ i, i ∈ row → i < L.length
  start : k ∈ row
  le : at_ ≤ row.length
  sound : ∀ i (h : i < L.length), i ∈ row → ∀ (hk : k < L.length), Reach (inL L) L[k] L[i]
  done : ∀ t i (ht : t < row.length) (h : i < L.length) (h2 : row[t] < L.length), t < at_ → Hangs L[row[t]] L[i] → i ∈ row
theorem Search.begin {L : List Msg} {k : Nat} (hk : k < L.length) : Search L k [k] 0 := by
  refine ⟨by simp, fun i hi => ?_, by simp, Nat.zero_le _, fun i h hi hk => ?_, fun t i ht h h2 h3 => absurd h3 (by omega)⟩
  · rw [List.mem_singleton] at hi; subst hi; exact hk
  · rw [List.mem_singleton] at hi; subst hi; exact Reach.refl _
theorem Search.push {L : List Msg} {k a : Nat} {row : List Nat} (h : Search L k row a) {i t : Nat} (hi : i < L.length) (hno : i ∉ row) (ht : t < row.length) (hl : row[t] < L.length) (hh : Hangs L[row[t]] L[i]) : Search L k (row ++ [i]) a := by
  refine ⟨?_, fun j hj => ?_, by simp [h.start], by have := h.le; simp; omega, fun j hj hm hk => ?_, fun t' j ht' hj hl' hlt hh' => ?_⟩
  · rw [List.nodup_append]
    refine ⟨h.nodup, by simp, fun x hx y hy e => ?_⟩
    rw [List.mem_singleton] at hy
    subst hy; subst e
    exact hno hx
  · rcases List.mem_append.1 hj with hj | hj
    · exact h.lt j hj
    · rw [List.mem_singleton] at hj; subst hj; exact hi
  · rcases List.mem_append.1 hm with hm | hm
    · exact h.sound j hj hm hk
    · rw [List.mem_singleton] at hm; subst hm
      exact (h.sound row[t] hl (List.getElem_mem ht) hk).trans (Reach.one ⟨List.getElem_mem hl, List.getElem_mem hi, hh⟩)
  · have hle := h.le
    have ht2 : t' < row.length := by omega
    rw [List.mem_append]
    left
    rw [List.getElem_append_left ht2] at hl'
    refine h.done t' j ht2 hj hl' hlt ?_
    have e : (row ++ [i])[t'] = row[t'] := List.getElem_append_left ht2
    simpa only [e] using hh'
theorem Search.next {L : List Msg} {k a : Nat} {row : List Nat} (h : Search L k row a) (ha : a < row.length) (hl : row[a] < L.length) (hall : ∀ i (hi : i < L.length), Hangs L[row[a]] L[i] → i ∈ row) : Search L k row (a + 1) :=
  { h with
    le := ha
    done := fun t i ht hi hl' hlt hh => by
      by_cases e : t = a
      · subst e; exact hall i hi hh
      · exact h.done t i ht hi hl' (by omega) hh }
theorem asc_index {L : List Msg} (h : Asc L) {i j : Nat} (hi : i < L.length) (hj : j < L.length) (e : L[i].id = L[j].id) : i = j := by
  have h' := List.pairwise_iff_getElem.1 h
  rcases Nat.lt_trichotomy i j with hl | hl | hl
  · have := h' i j hi hj hl; omega
  · exact hl
  · have := h' j i hj hi hl; omega
/-- At its end the search has found the conversation. -/
theorem Search.all {L : List Msg} {k : Nat} {row : List Nat} (h : Search L k row row.length) (hL : Asc L) (hk : k < L.length) (i : Nat) (hi : i < L.length) : i ∈ row ↔ Memb L L[k].id L[i] := by
  constructor
  · intro hm
    exact ⟨L[k], List.getElem_mem hk, rfl, h.sound i hi hm hk⟩
  · rintro ⟨m, hm, e, hr⟩
    obtain ⟨k', hk', e'⟩ := List.getElem_of_mem hm
    have ek : k' = k := asc_index hL hk' hk (by rw [e', e])
    subst ek
    rw [← e'] at hr
    refine hr.ind (fun z => ∀ i (hi : i < L.length), L[i] = z → i ∈ row) ?_ ?_ i hi rfl
    · intro i hi e2
      have := asc_index hL hi hk (by rw [e2])
      subst this; exact h.start
    · intro x y _ hxy ih i hi e2
      obtain ⟨hx, _, hh⟩ := hxy
      obtain ⟨j, hj, ej⟩ := List.getElem_of_mem hx
      have hjr := ih j hj ej
      obtain ⟨t, ht, et⟩ := List.getElem_of_mem hjr
      have hl : row[t] < L.length := by rw [et]; exact hj
      refine h.done t i ht hi hl ht ?_
      have e3 : L[row[t]] = x := by simp only [et]; exact ej
      rw [e3, e2]; exact hh
open Classical in
/-- What the last loop has told of the conversation. -/
noncomputable def told (L : List Msg) (id : Int) (j : Nat) : List Int := ((L.take j).filter fun x => decide (Memb L id x)).map (·.id)
theorem told_zero (L : List Msg) (id : Int) : told L id 0 = [] := by simp [told]
theorem told_yes {L : List Msg} {id : Int} {j : Nat} (hj : j < L.length) (h : Memb L id L[j]) : told L id (j + 1) = told L id j ++ [L[j].id] := by
  unfold told
  rw [List.take_succ_eq_append_getElem hj, List.filter_append, List.map_append]
  simp [h]
theorem told_no {L : List Msg} {id : Int} {j : Nat} (hj : j < L.length) (h : ¬ Memb L id L[j]) : told L id (j + 1) = told L id j := by
  unfold told
  rw [List.take_succ_eq_append_getElem hj, List.filter_append, List.map_append]
  simp [h]
theorem told_all (L : List Msg) (id : Int) : told L id L.length = groupOf L id := by unfold told groupOf; rw [List.take_length]
/-- Block ib marks the members of the row. -/
def Marked (w : World) (ib n : Nat) (row : List Nat) : Prop := ∃ cur : Array Value, w.heap[ib]? = some (.cells cur 4 (0, 0)) ∧ cur.size = n ∧ ∀ i, i < n → cur[i]? = some (.bool (decide (i ∈ row)))
theorem Marked.cell {w : World} {ib n : Nat} {row : List Nat} (h : Marked w ib n row) {i : Nat} (hi : i < n) : w.cell? ⟨ib, i, none⟩ = some (.bool (decide (i ∈ row))) ∧ w.frozen? ⟨ib, i, none⟩ = false := by
  obtain ⟨cur, h1, h2, h3⟩ := h
  exact ⟨by simpa [World.cell?, h1] using h3 i hi, by simp [World.frozen?, h1]⟩
theorem Marked.keep {w w' : World} {ib n : Nat} {row : List Nat} (h : Marked w ib n row) (hk : w'.heap[ib]? = w.heap[ib]?) : Marked w' ib n row := by
  obtain ⟨cur, h1, h2⟩ := h
  exact ⟨cur, hk.trans h1, h2⟩
theorem Marked.set {w : World} {ib n : Nat} {row : List Nat} (h : Marked w ib n row) {j : Nat} (hj : j < n) : Marked (w.setCell ⟨ib, j, none⟩ (.bool true)) ib n (row ++ [j]) := by
  obtain ⟨cur, h1, h2, h3⟩ := h
  refine ⟨_, heap_setCell_same w ib j _ 4 _ h1, by simp [h2], fun i hi => ?_⟩
  by_cases e : i = j
  · subst e
    simp [h2, hi]
  · have e2 : ¬ j = i := fun h => e h.symm
    simp [e, e2, h3 i hi]
end Go.Proofs.Ytlobiebmaheflaa
