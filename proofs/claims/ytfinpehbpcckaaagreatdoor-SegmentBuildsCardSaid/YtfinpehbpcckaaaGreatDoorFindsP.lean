/- Layer 34: what the laws over built segments share. -/
import Derived.Test.YtfinpehbpcckaaaGreatDoorSmall
namespace Go.Proofs.YtfinpehbpcckaaaGreatDoor
open Go.RowKit
set_option linter.unusedVariables false

theorem used_prefix (es : List Ent) (k : Nat) : ∀ x, x ∈ usedE (es.take k) → x ∈ usedE es := by
  have key : ∀ (l U : List Ent) (x : Ent), x ∈ U → x ∈ l.foldl useE U := by
    intro l
    induction l with
    | nil => intro U x h; exact h
    | cons a r ih =>
      intro U x h
      rw [List.foldl_cons]
      refine ih _ _ ?_
      unfold useE
      split
      · simp [h]
      · exact h
  intro x hx
  have e : usedE es = (es.drop k).foldl useE (usedE (es.take k)) := by
    unfold usedE
    rw [← List.foldl_append, List.take_append_drop]
  rw [e]
  exact key _ _ _ hx
/-- A valid entry with no earlier one of its document and field is used. -/
theorem used_of {es : List Ent} {k : Nat} (hk : k < es.length) (hc : countsP es[k].doc es[k].field = true) (ha : ¬ AheadE es k) : es[k] ∈ usedE es := by
  refine used_prefix es (k + 1) _ ?_
  rw [List.take_succ_eq_append_getElem hk, usedE_snoc]
  unfold useE
  rw [if_pos]
  · simp
  · refine ⟨hc, fun h => ha ?_⟩
    obtain ⟨x, hx, h1⟩ := List.mem_map.1 h
    rcases usedE_mem (es.take k) [] x hx with h2 | h2
    · cases h2
    · obtain ⟨j, hj, rfl⟩ := List.getElem_of_mem h2
      rw [List.length_take] at hj
      rw [List.getElem_take] at h1
      exact ⟨j, by omega, by omega, hk, h1⟩
theorem Few.ents {es : List Ent} (h : Few es) : EntsFew es := ⟨by have := h.1; omega, fun e he => by have := h.2 e he; omega⟩
theorem Few.efew {es : List Ent} (h : Few es) : EFew (usedE es) := by
  refine ⟨?_, fun e he => ?_⟩
  · have h1 := usedE_len es []
    have h2 := h.1
    simp only [List.length_nil] at h1
    unfold usedE; omega
  · rcases usedE_mem es [] e he with h1 | h1
    · cases h1
    · exact h.2 e h1
theorem look_small {s : Seg} (hf : SegFew s) (field : Int) (p : List UInt8 → Bool) : (foundP s field p).length ≤ 250000000 ∧ ∀ q, q ∈ foundP s field p → q.places.length ≤ 250000000 := by
  unfold foundP
  split
  · have h := found_ok hf field p s.terms.length (Nat.le_refl _)
    rw [List.take_length] at h
    have h1 := h.len
    have h2 := Nat.mul_le_mul_left 50000 hf.terms
    exact ⟨by omega, fun q hq => by have := h.places q hq; omega⟩
  · exact ⟨Nat.zero_le _, fun q hq => by cases hq⟩
/-- What a look-up hands back, ready for stands. -/
theorem look_form {w w' : World} {s : Seg} {field : Int} {p : List UInt8 → Bool} {e : Ending} (hf : SegFew s) (h : PostsBack w (foundP s field p) e w') :
    ∃ A n c, e = .returned (.slice A n c) ∧ Posts w' w'.heap.size A n (foundP s field p) ∧ n ≤ 250000000 ∧ n ≤ c ∧ c ≤ maxLen ∧ Below w.heap.size w w' := by
  obtain ⟨v, ps, rfl, hown, hps, hb⟩ := h
  obtain ⟨A, c, rfl, h1, h2, h3⟩ := hown.posts
  rw [hps] at h3
  refine ⟨A, ps.length, c, rfl, h3, ?_, h1, h2, hb⟩
  have := (look_small hf field p).1
  rw [← hps, List.length_map] at this
  exact this
end Go.Proofs.YtfinpehbpcckaaaGreatDoor
