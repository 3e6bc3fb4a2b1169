/- Plain facts of ThreadComes: a message that comes joins the conversations to which it is linked. -/
import Derived.Test.YtlobiebmaheflaaPartsP
namespace Go.Proofs.Ytlobiebmaheflaa
open Go.RowKit
set_option linter.unusedVariables false

/-- The conversation g is joined by message i. -/
noncomputable def joins (L' : List Msg) (i : Int) (g : List Int) : Bool := decide (g.headD 0 ∈ groupOf L' i)
section
variable {L L' : List Msg} {m : Msg}
/-- L' is L with the message m more. -/
structure Come (L L' : List Msg) (m : Msg) : Prop where
  asc : Asc L
  asc' : Asc L'
  mem : ∀ x, x ∈ L' ↔ x = m ∨ x ∈ L
  new : ∀ x, x ∈ L → x.id ≠ m.id
theorem Come.up (h : Come L L' m) {a b : Msg} (hr : Reach (inL L) a b) : Reach (inL L') a b := hr.mono fun x y hxy => ⟨(h.mem x).2 (.inr hxy.1), (h.mem y).2 (.inr hxy.2.1), hxy.2.2⟩
theorem Come.down (h : Come L L' m) {a b : Msg} (ha : a ∈ L) (hn : ¬ Reach (inL L') a m) (hr : Reach (inL L') a b) : b ∈ L ∧ Reach (inL L) a b := by
  refine hr.ind (fun z => z ∈ L ∧ Reach (inL L) a z) ⟨ha, .refl _⟩ ?_
  intro x y rx hxy ih
  have hy : y ∈ L := by
    rcases (h.mem y).1 hxy.2.1 with e | e
    · subst e; exact absurd (rx.snoc hxy) hn
    · exact e
  exact ⟨hy, ih.2.snoc ⟨ih.1, hy, hxy.2.2⟩⟩
theorem Come.here (h : Come L L' m) : m ∈ L' := (h.mem m).2 (.inl rfl)
theorem memb_self {L : List Msg} (hL : Asc L) {a x : Msg} (ha : a ∈ L) : Memb L a.id x ↔ Reach (inL L) a x := by
  constructor
  · rintro ⟨b, hb, e, hr⟩
    have := hL.inj hb ha e
    subst this; exact hr
  · intro hr; exact ⟨a, ha, rfl, hr⟩
theorem mem_group {L : List Msg} (hL : Asc L) {a x : Msg} (ha : a ∈ L) (hx : x ∈ L) : x.id ∈ groupOf L a.id ↔ Reach (inL L) a x := by
  constructor
  · intro h; exact (memb_self hL ha).1 (memb_of_mem hL hx h)
  · intro h; exact mem_groupOf.2 ⟨x, hx, rfl, (memb_self hL ha).2 h⟩
/-- A conversation of before, by its head. -/
theorem Come.cls (h : Come L L' m) {g : List Int} (hg : g ∈ allOf L) : ∃ a, a ∈ L ∧ g = groupOf L a.id ∧ g.headD 0 = a.id ∧ (joins L' m.id g = true ↔ Reach (inL L') m a) := by
  obtain ⟨i, r, rfl⟩ := all_cons h.asc hg
  obtain ⟨e, a, ha, rfl⟩ := elem_group h.asc hg (x := i) (by simp)
  refine ⟨a, ha, e.symm, rfl, ?_⟩
  unfold joins
  rw [decide_eq_true_iff]
  exact mem_group h.asc' h.here ((h.mem a).2 (.inr ha))
theorem Come.joined (h : Come L L' m) {g : List Int} (hg : g ∈ allOf L) (hj : joins L' m.id g = true) : ∀ x, x ∈ g → x ∈ groupOf L' m.id ∧ x ≠ m.id := by
  obtain ⟨a, ha, rfl, -, hr⟩ := h.cls hg
  intro x hx
  obtain ⟨y, hy, rfl, hmy⟩ := mem_groupOf.1 hx
  have h1 := (memb_self h.asc ha).1 hmy
  exact ⟨(mem_group h.asc' h.here ((h.mem y).2 (.inr hy))).2 ((hr.1 hj).trans (h.up h1)), h.new y hy⟩
theorem Come.group_stays (h : Come L L' m) {a : Msg} (ha : a ∈ L) (hn : ¬ Reach (inL L') m a) : groupOf L' a.id = groupOf L a.id := by
  have hn' : ¬ Reach (inL L') a m := fun hr => hn (hr.symm inL_symm)
  symm
  refine groupOf_eq h.asc' (groupOf_asc h.asc _) fun j => ?_
  rw [mem_groupOf]
  constructor
  · rintro ⟨x, hx, e, hm⟩
    exact ⟨x, (h.mem x).2 (.inr hx), e, (memb_self h.asc' ((h.mem a).2 (.inr ha))).2 (h.up ((memb_self h.asc ha).1 hm))⟩
  · rintro ⟨x, hx, e, hm⟩
    have h1 := h.down ha hn' ((memb_self h.asc' ((h.mem a).2 (.inr ha))).1 hm)
    exact ⟨x, h1.1, e, (memb_self h.asc ha).2 h1.2⟩
theorem Come.apart (h : Come L L' m) {g : List Int} (hg : g ∈ allOf L) (hj : joins L' m.id g = false) : g ∈ allOf L' ∧ g ≠ groupOf L' m.id := by
  obtain ⟨a, ha, e, -, hr⟩ := h.cls hg
  have hn : ¬ Reach (inL L') m a := fun hx => by rw [hr.2 hx] at hj; cases hj
  have e2 := h.group_stays ha hn
  refine ⟨(mem_allOf h.asc').2 ⟨a, (h.mem a).2 (.inr ha), by rw [e2]; exact e⟩, fun e3 => ?_⟩
  rw [e] at e3
  have h1 : m.id ∈ groupOf L a.id := by rw [e3]; exact groupOf_self h.here
  obtain ⟨y, hy, e4, -⟩ := mem_groupOf.1 h1
  exact h.new y hy e4
theorem Come.back (h : Come L L' m) {x : Int} (hx : x ∈ groupOf L' m.id) (hne : x ≠ m.id) : ∃ g, g ∈ allOf L ∧ joins L' m.id g = true ∧ x ∈ g := by
  obtain ⟨y, hy, rfl, hmy⟩ := mem_groupOf.1 hx
  have hyL : y ∈ L := by
    rcases (h.mem y).1 hy with e | e
    · subst e; exact absurd rfl hne
    · exact e
  have hg : groupOf L y.id ∈ allOf L := (mem_allOf h.asc).2 ⟨y, hyL, rfl⟩
  refine ⟨_, hg, ?_, groupOf_self hyL⟩
  obtain ⟨a, ha, e, -, hr⟩ := h.cls hg
  refine hr.2 (((memb_self h.asc' h.here).1 hmy).trans (h.up ?_))
  have h1 : a.id ∈ groupOf L y.id := by rw [e]; exact groupOf_self ha
  exact (mem_group h.asc hyL ha).1 h1
theorem Come.class_of (h : Come L L' m) {g : List Int} (hg : g ∈ allOf L') : g = groupOf L' m.id ∨ (g ∈ allOf L ∧ joins L' m.id g = false) := by
  obtain ⟨a, ha, rfl⟩ := (mem_allOf h.asc').1 hg
  by_cases hr : Reach (inL L') m a
  · left
    exact (groupOf_same h.asc' h.here ha ((memb_self h.asc' h.here).2 hr)).symm
  · right
    have haL : a ∈ L := by
      rcases (h.mem a).1 ha with e | e
      · subst e; exact absurd (.refl _) hr
      · exact e
    have e := h.group_stays haL hr
    rw [e]
    have hg : groupOf L a.id ∈ allOf L := (mem_allOf h.asc).2 ⟨a, haL, rfl⟩
    refine ⟨hg, ?_⟩
    cases hj : joins L' m.id (groupOf L a.id) with
    | false => rfl
    | true =>
      have h1 := (h.joined hg hj a.id (groupOf_self haL)).1
      exact absurd ((mem_group h.asc' h.here ha).1 h1) hr

/-- How many messages are joined, how many conversations stay. -/
noncomputable def inSum (L' : List Msg) (i : Int) : List (List Int) → Nat
  | [] => 0
  | g :: r => (if joins L' i g = true then g.length else 0) + inSum L' i r
noncomputable def outSum (L' : List Msg) (i : Int) : List (List Int) → Nat
  | [] => 0
  | g :: r => (if joins L' i g = true then 0 else 1) + outSum L' i r
theorem inSum_snoc (L' : List Msg) (i : Int) (l : List (List Int)) (g : List Int) : inSum L' i (l ++ [g]) = inSum L' i l + (if joins L' i g = true then g.length else 0) := by
  induction l with
  | nil => simp [inSum]
  | cons a r ih => simp only [List.cons_append, inSum, ih]; omega
theorem outSum_snoc (L' : List Msg) (i : Int) (l : List (List Int)) (g : List Int) : outSum L' i (l ++ [g]) = outSum L' i l + (if joins L' i g = true then 0 else 1) := by
  induction l with
  | nil => simp [outSum]
  | cons a r ih => simp only [List.cons_append, outSum, ih]; omega
theorem inSum_eq (L' : List Msg) (i : Int) (l : List (List Int)) : inSum L' i l = (l.filter fun g => joins L' i g).flatten.length := by
  induction l with
  | nil => rfl
  | cons a r ih =>
    simp only [inSum, List.filter_cons]
    by_cases h : joins L' i a = true
    · rw [if_pos h, if_pos h, List.flatten_cons, List.length_append, ih]
    · rw [if_neg h, if_neg h, ih]; omega
theorem outSum_eq (L' : List Msg) (i : Int) (l : List (List Int)) : outSum L' i l = (l.filter fun g => !joins L' i g).length := by
  induction l with
  | nil => rfl
  | cons a r ih =>
    simp only [outSum, List.filter_cons]
    by_cases h : joins L' i a = true
    · rw [if_pos h, ih]; simp [h]
    · have h' : joins L' i a = false := by simpa using h
      rw [if_neg h, ih]; simp [h']; omega
theorem all_nodup (hL : Asc L) : (allOf L).flatten.Nodup := by
  rw [List.nodup_iff_pairwise_ne, List.pairwise_flatten]
  refine ⟨fun g hg => (all_each_asc hL hg).imp fun h e => by omega, ?_⟩
  refine (allOf_asc hL).imp_of_mem ?_
  intro a b ha hb hab x hx y hy e
  subst e
  have h1 := (elem_group hL ha hx).1
  have h2 := (elem_group hL hb hy).1
  rw [← h1, h2] at hab
  omega
theorem all_nodup' (hL : Asc L) : (allOf L).Nodup := by
  rw [List.nodup_iff_pairwise_ne]
  exact (allOf_asc hL).imp fun h e => by subst e; omega
theorem flat_sub (p : List Int → Bool) : ∀ l : List (List Int), (l.filter p).flatten.Sublist l.flatten
  | [] => List.Sublist.refl _
  | a :: r => by
    rw [List.filter_cons, List.flatten_cons]
    split
    · rw [List.flatten_cons]; exact List.Sublist.append (List.Sublist.refl _) (flat_sub p r)
    · exact (flat_sub p r).trans (List.sublist_append_right _ _)
theorem Come.in_eq (h : Come L L' m) : (groupOf L' m.id).length = inSum L' m.id (allOf L) + 1 := by
  rw [inSum_eq]
  have hn1 : (m.id :: ((allOf L).filter fun g => joins L' m.id g).flatten).Nodup := by
    rw [List.nodup_cons]
    refine ⟨fun hx => ?_, ?_⟩
    · obtain ⟨g, hg, hxg⟩ := List.mem_flatten.1 hx
      obtain ⟨hg1, hg2⟩ := List.mem_filter.1 hg
      exact (h.joined hg1 hg2 _ hxg).2 rfl
    · refine List.Sublist.nodup ?_ (all_nodup h.asc)
      exact flat_sub _ _
  have hn2 : (groupOf L' m.id).Nodup := by
    rw [List.nodup_iff_pairwise_ne]
    exact (groupOf_asc h.asc' _).imp fun h e => by omega
  have h1 := nodup_le' (ll := groupOf L' m.id) hn1 fun x hx => by
    rcases List.mem_cons.1 hx with e | hx
    · subst e; exact groupOf_self h.here
    · obtain ⟨g, hg, hxg⟩ := List.mem_flatten.1 hx
      obtain ⟨hg1, hg2⟩ := List.mem_filter.1 hg
      exact (h.joined hg1 hg2 _ hxg).1
  have h2 := nodup_le' (ll := m.id :: ((allOf L).filter fun g => joins L' m.id g).flatten) hn2 fun x hx => by
    by_cases e : x = m.id
    · rw [e]; simp
    · obtain ⟨g, hg, hj, hxg⟩ := h.back hx e
      exact List.mem_cons_of_mem _ (List.mem_flatten.2 ⟨g, List.mem_filter.2 ⟨hg, hj⟩, hxg⟩)
  rw [List.length_cons] at h1 h2
  omega
theorem Come.out_eq (h : Come L L' m) : (allOf L').length = outSum L' m.id (allOf L) + 1 := by
  rw [outSum_eq]
  have hn1 : (groupOf L' m.id :: (allOf L).filter fun g => !joins L' m.id g).Nodup := by
    rw [List.nodup_cons]
    refine ⟨fun hx => ?_, List.Sublist.nodup List.filter_sublist (all_nodup' h.asc)⟩
    obtain ⟨hg1, hg2⟩ := List.mem_filter.1 hx
    exact (h.apart hg1 (by simpa using hg2)).2 rfl
  have h1 := nodup_le' (ll := allOf L') hn1 fun x hx => by
    rcases List.mem_cons.1 hx with e | hx
    · subst e; exact (mem_allOf h.asc').2 ⟨m, h.here, rfl⟩
    · obtain ⟨hg1, hg2⟩ := List.mem_filter.1 hx
      exact (h.apart hg1 (by simpa using hg2)).1
  have h2 := nodup_le' (ll := groupOf L' m.id :: (allOf L).filter fun g => !joins L' m.id g) (all_nodup' h.asc') fun x hx => by
    rcases h.class_of hx with e | ⟨e1, e2⟩
    · subst e; simp
    · exact List.mem_cons_of_mem _ (List.mem_filter.2 ⟨e1, by simpa using e2⟩)
  rw [List.length_cons] at h1 h2
  omega
theorem Come.ins (hL : Asc L) (hn : ∀ x, x ∈ L → x.id ≠ m.id) : Come L (ins m L) m := ⟨hL, ins_asc hL hn, fun x => mem_ins, hn⟩
end
end Go.Proofs.Ytlobiebmaheflaa
