/- The plain laws of the splice layer: applying the differences gives the new list; what the splices count; the kept elements are a longest common subsequence. -/
import Derived.Test.YtfnbchbndmbjaaaPlain
namespace Go.Proofs.Ytfnbchbndmbjaaa
set_option linter.unusedVariables false

def oldOf : List Ev → List Int
  | [] => []
  | .keep n :: r => n :: oldOf r
  | .del n :: r => n :: oldOf r
  | .ins _ :: r => oldOf r
def newOf : List Ev → List Int
  | [] => []
  | .keep n :: r => n :: newOf r
  | .del _ :: r => newOf r
  | .ins n :: r => n :: newOf r
theorem oldOf_append (e f : List Ev) : oldOf (e ++ f) = oldOf e ++ oldOf f := by
  induction e with
  | nil => rfl
  | cons x r ih => cases x <;> simp [oldOf, ih]
theorem newOf_append (e f : List Ev) : newOf (e ++ f) = newOf e ++ newOf f := by
  induction e with
  | nil => rfl
  | cons x r ih => cases x <;> simp [newOf, ih]
theorem old_ins (l : List Int) : oldOf (l.map .ins) = [] := by induction l <;> simp_all [oldOf]
theorem new_ins (l : List Int) : newOf (l.map .ins) = l := by induction l <;> simp_all [newOf]
theorem old_del (l : List Int) : oldOf (l.map .del) = l := by induction l <;> simp_all [oldOf]
theorem new_del (l : List Int) : newOf (l.map .del) = [] := by induction l <;> simp_all [newOf]
theorem kept_ins (l : List Int) : kept (l.map .ins) = [] := by induction l <;> simp_all [kept]
theorem kept_del (l : List Int) : kept (l.map .del) = [] := by induction l <;> simp_all [kept]
theorem align_sides (N : Nat) : ∀ a b : List Int, a.length + b.length ≤ N → oldOf (align a b) = a ∧ newOf (align a b) = b ∧ (kept (align a b)).length = lcs a b := by
  induction N with
  | zero =>
    intro a b h
    have ha : a = [] := List.eq_nil_of_length_eq_zero (by omega)
    have hb : b = [] := List.eq_nil_of_length_eq_zero (by omega)
    subst ha; subst hb; simp [align, oldOf, newOf, kept, lcs]
  | succ N ih =>
    intro a b h
    match a, b with
    | [], b => simp [align, old_ins, new_ins, kept_ins, lcs]
    | x :: xs, [] => simp [align, oldOf, newOf, kept, old_del, new_del, kept_del, lcs]
    | x :: xs, y :: ys =>
      simp only [List.length_cons] at h
      rw [align]
      by_cases e : x = y
      · subst e
        obtain ⟨h1, h2, h3⟩ := ih xs ys (by omega)
        rw [if_pos rfl, lcs_cons_eq]
        simp [oldOf, newOf, kept, h1, h2, h3]
      · rw [if_neg e, lcs_cons_ne e]
        split
        · obtain ⟨h1, h2, h3⟩ := ih xs (y :: ys) (by simp only [List.length_cons]; omega)
          simp only [oldOf, newOf, kept, h1, h2, h3, true_and]
          omega
        · obtain ⟨h1, h2, h3⟩ := ih (x :: xs) ys (by simp only [List.length_cons]; omega)
          simp only [oldOf, newOf, kept, h1, h2, h3, true_and]
          omega
theorem align_old (a b : List Int) : oldOf (align a b) = a := (align_sides _ a b (Nat.le_refl _)).1
theorem align_new (a b : List Int) : newOf (align a b) = b := (align_sides _ a b (Nat.le_refl _)).2.1
theorem align_kept (a b : List Int) : (kept (align a b)).length = lcs a b := (align_sides _ a b (Nat.le_refl _)).2.2
theorem kept_old (e : List Ev) : (kept e).Sublist (oldOf e) := by
  induction e with
  | nil => exact List.Sublist.slnil
  | cons x r ih => cases x <;> simp [kept, oldOf, ih, List.Sublist.cons]
theorem kept_new (e : List Ev) : (kept e).Sublist (newOf e) := by
  induction e with
  | nil => exact List.Sublist.slnil
  | cons x r ih => cases x <;> simp [kept, newOf, ih, List.Sublist.cons]

/-- No common subsequence is longer. -/
theorem lcs_most (N : Nat) : ∀ (a b r : List Int), a.length + b.length ≤ N → r.Sublist a → r.Sublist b → r.length ≤ lcs a b := by
  induction N with
  | zero =>
    intro a b r h ha _
    have : a = [] := List.eq_nil_of_length_eq_zero (by omega)
    subst this
    have := List.eq_nil_of_sublist_nil ha
    subst this
    simp
  | succ N ih =>
    intro a b r h ha hb
    match a, b with
    | [], b => have := List.eq_nil_of_sublist_nil ha; subst this; simp
    | x :: xs, [] => have := List.eq_nil_of_sublist_nil hb; subst this; simp
    | x :: xs, y :: ys =>
      simp only [List.length_cons] at h
      by_cases e : x = y
      · subst e
        rw [lcs_cons_eq]
        match r with
        | [] => simp
        | z :: zs =>
          have h1 : zs.Sublist xs := by
            rcases List.sublist_cons_iff.1 ha with h1 | ⟨r', h1, h2⟩
            · exact (List.sublist_cons_self z zs).trans h1
            · injection h1 with _ h1; subst h1; exact h2
          have h2 : zs.Sublist ys := by
            rcases List.sublist_cons_iff.1 hb with h1 | ⟨r', h1, h2⟩
            · exact (List.sublist_cons_self z zs).trans h1
            · injection h1 with _ h1; subst h1; exact h2
          have := ih xs ys zs (by omega) h1 h2
          simp only [List.length_cons]; omega
      · rw [lcs_cons_ne e]
        rcases List.sublist_cons_iff.1 ha with h1 | ⟨r', h1, h2⟩
        · have := ih xs (y :: ys) r (by simp only [List.length_cons]; omega) h1 hb
          omega
        · rcases List.sublist_cons_iff.1 hb with h3 | ⟨r'', h3, h4⟩
          · have := ih (x :: xs) ys r (by simp only [List.length_cons]; omega) ha h3
            omega
          · rw [h1] at h3; injection h3 with h3 _; exact absurd h3 e

/-! ### the greedy test -/
theorem wit_sound (r l : List Int) (k : Nat) (hk : k ≤ l.length) : (r.take (wit r l k)).Sublist (l.take k) := by
  induction k with
  | zero => simp [wit]
  | succ k ih =>
    have h1 := ih (by omega)
    have e : l.take (k + 1) = l.take k ++ [gi l k] := by rw [List.take_succ_eq_append_getElem (by omega), gi_get (by omega)]
    simp only [wit]
    split
    · rename_i h
      have e2 : r.take (wit r l k + 1) = r.take (wit r l k) ++ [gi l k] := by rw [List.take_succ_eq_append_getElem h.1, ← gi_get h.1, h.2]
      rw [e, e2]
      exact h1.append (List.Sublist.refl _)
    · rw [e]; exact h1.trans (List.sublist_append_left _ _)
theorem wit_most (r l : List Int) (k : Nat) (hk : k ≤ l.length) : ∀ j, j ≤ r.length → (r.take j).Sublist (l.take k) → j ≤ wit r l k := by
  induction k with
  | zero =>
    intro j hj h
    rw [List.take_zero] at h
    have h0 := List.eq_nil_of_sublist_nil h
    have h1 := congrArg List.length h0
    rw [List.length_take, List.length_nil] at h1
    have h2 : j = 0 := by omega
    subst h2
    exact Nat.zero_le _
  | succ k ih =>
    intro j hj h
    have e : l.take (k + 1) = l.take k ++ [gi l k] := by rw [List.take_succ_eq_append_getElem (by omega), gi_get (by omega)]
    have hmono : wit r l k ≤ wit r l (k + 1) := by simp only [wit]; split <;> omega
    cases j with
    | zero => omega
    | succ j =>
      rw [e, List.take_succ_eq_append_getElem (by omega)] at h
      have h1 : (r.take j).Sublist (l.take k) := by
        have h2 := List.sublist_append_iff.1 h
        obtain ⟨u, v, h3, h4, h5⟩ := h2
        cases v with
        | nil =>
          rw [List.append_nil] at h3
          rw [← h3] at h4
          exact (List.sublist_append_left _ _).trans h4
        | cons z zs =>
          have h6 : zs = [] := by
            have := h5.length_le
            simp at this
            exact this
          subst h6
          have h7 := List.append_inj' h3 rfl
          rw [h7.1]; exact h4
      have h2 := ih (by omega) j (by omega) h1
      by_cases hj2 : j < wit r l k
      · omega
      · have hjw : wit r l k = j := by omega
        simp only [wit]
        rw [hjw]
        by_cases h3 : gi l k = gi r j
        · rw [if_pos ⟨by omega, h3⟩]; exact Nat.le_refl _
        · exfalso
          have h4 : (r.take (j + 1)).Sublist (l.take k) := by
            rw [List.take_succ_eq_append_getElem (by omega)]
            obtain ⟨u, v, h5, h6, h7⟩ := List.sublist_append_iff.1 h
            cases v with
            | nil => rw [List.append_nil] at h5; rw [h5]; exact h6
            | cons z zs =>
              have h8 : zs = [] := by have := h7.length_le; simp at this; exact this
              subst h8
              have h9 := (List.append_inj' h5 rfl).2
              have h10 : z = gi l k := by
                rcases List.sublist_cons_iff.1 h7 with h | ⟨r', h, _⟩
                · cases List.eq_nil_of_sublist_nil h
                · injection h
              injection h9 with h9
              rw [← gi_get (by omega)] at h9
              exact absurd (h10.symm.trans h9.symm) h3
          have := ih (by omega) (j + 1) hj h4
          omega
theorem wit_iff (r l : List Int) : (wit r l l.length == r.length) = true ↔ r.Sublist l := by
  rw [beq_iff_eq]
  constructor
  · intro h
    have := wit_sound r l l.length (Nat.le_refl _)
    rw [h, List.take_length, List.take_length] at this
    exact this
  · intro h
    have h1 := wit_most r l l.length (Nat.le_refl _) r.length (Nat.le_refl _) (by rw [List.take_length, List.take_length]; exact h)
    have h2 := wit_le r l l.length
    omega
theorem rowGo_sub (l : List Int) : ∀ (places : List Int) (last : Int), -1 ≤ last → (rowGo l last places).Sublist (l.drop (last + 1).toNat)
  | [], _, _ => List.nil_sublist _
  | p :: ps, last, h => by
    unfold rowGo
    split
    · exact List.nil_sublist _
    · rename_i hp
      have h1 : last < p := by omega
      have h2 : p < l.length := by omega
      have ih := rowGo_sub l ps p (by omega)
      have e : l.drop p.toNat = gi l p.toNat :: l.drop (p + 1).toNat := by
        rw [List.drop_eq_getElem_cons (by omega), gi_get (by omega), show (p + 1).toNat = p.toNat + 1 by omega]
      have h3 : (gi l p.toNat :: rowGo l p ps).Sublist (l.drop p.toNat) := by rw [e]; exact ih.cons_cons _
      refine h3.trans ?_
      have h4 : l.drop p.toNat = (l.drop (last + 1).toNat).drop (p.toNat - (last + 1).toNat) := by rw [List.drop_drop]; congr 1; omega
      rw [h4]
      exact List.drop_sublist _ _
theorem rowGo_sublist (l places : List Int) : (rowGo l (-1) places).Sublist l := by simpa using rowGo_sub l places (-1) (by omega)
end Go.Proofs.Ytfnbchbndmbjaaa
