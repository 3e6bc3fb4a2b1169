/- Layer 34, plain: the reference's Build makes what Build makes. -/
import Derived.Test.YtfinpehbpcckaaaGreatDoorM17
namespace Go.Proofs.YtfinpehbpcckaaaGreatDoor
set_option linter.unusedVariables false

theorem snoc_ind {α : Type} {P : List α → Prop} (nil : P []) (snoc : ∀ r y, P r → P (r ++ [y])) (l : List α) : P l := by
  have h : ∀ l : List α, P l.reverse := by
    intro l
    induction l with
    | nil => exact nil
    | cons a r ih => rw [List.reverse_cons]; exact snoc _ _ ih
  have := h l.reverse
  rwa [List.reverse_reverse] at this
theorem mem_tw {α : Type} {p : α → Bool} : ∀ {l : List α} {x : α}, x ∈ l.takeWhile p → p x = true
  | [], x, h => by simp at h
  | a :: r, x, h => by
    rw [List.takeWhile_cons] at h
    by_cases ha : p a = true
    · rw [if_pos ha] at h
      rcases List.mem_cons.1 h with rfl | h
      · exact ha
      · exact mem_tw h
    · rw [if_neg ha] at h; cases h
/-- An earlier entry has this one's document and field. -/
def earlier (es : List Ent) (k j : Nat) : Bool := (es.take j).any fun x => decide (spotE x = spotE (es.getD k ⟨0, 0, []⟩))
theorem counts_spot {x e : Ent} (h : spotE x = spotE e) : countsP x.doc x.field = countsP e.doc e.field := by
  unfold spotE at h
  obtain ⟨h1, h2⟩ := Prod.mk.inj h
  rw [h1, h2]
theorem used_spots : ∀ (es : List Ent) (e : Ent), countsP e.doc e.field = true → (spotE e ∈ (usedE es).map spotE ↔ ∃ x, x ∈ es ∧ spotE x = spotE e) := by
  intro es
  induction es using snoc_ind with
  | nil => intro e _; simp [usedE]
  | snoc r y ih =>
    intro e he
    rw [usedE_snoc]
    have h0 := ih e he
    unfold useE
    split
    · rename_i h1
      rw [List.map_append, List.mem_append, h0]
      simp only [List.map_cons, List.map_nil, List.mem_singleton, List.mem_append]
      constructor
      · rintro (⟨x, hx, e1⟩ | e1)
        · exact ⟨x, .inl hx, e1⟩
        · exact ⟨y, .inr rfl, e1.symm⟩
      · rintro ⟨x, hx | rfl, e1⟩
        · exact .inl ⟨x, hx, e1⟩
        · exact .inr e1.symm
    · rename_i h1
      rw [h0]
      constructor
      · rintro ⟨x, hx, e1⟩
        exact ⟨x, by simp [hx], e1⟩
      · rintro ⟨x, hx, e1⟩
        rcases List.mem_append.1 hx with hx | hx
        · exact ⟨x, hx, e1⟩
        · rw [List.mem_singleton] at hx
          subst hx
          have hc := counts_spot e1
          rw [he] at hc
          have : spotE x ∈ (usedE r).map spotE := by
            apply Classical.byContradiction
            intro h
            exact h1 ⟨hc, h⟩
          obtain ⟨z, hz, e2⟩ := (ih x hc).1 this
          exact ⟨z, hz, e2.trans e1⟩
theorem used_take {es : List Ent} {k : Nat} (hk : k < es.length) : usedE (es.take (k + 1)) = if countsP es[k].doc es[k].field = true ∧ earlier es k k = false then usedE (es.take k) ++ [es[k]] else usedE (es.take k) := by
  rw [List.take_succ_eq_append_getElem hk, usedE_snoc]
  unfold useE
  by_cases hc : countsP es[k].doc es[k].field = true
  · have h1 := used_spots (es.take k) es[k] hc
    have h2 : earlier es k k = true ↔ ∃ x, x ∈ es.take k ∧ spotE x = spotE es[k] := by
      unfold earlier
      rw [List.any_eq_true]
      have : es.getD k ⟨0, 0, []⟩ = es[k] := by simp [hk]
      rw [this]
      constructor
      · rintro ⟨x, hx, h⟩; exact ⟨x, hx, of_decide_eq_true h⟩
      · rintro ⟨x, hx, h⟩; exact ⟨x, hx, decide_eq_true h⟩
    by_cases he : earlier es k k = true
    · rw [if_neg (fun h => h.2 (h1.2 (h2.1 he))), if_neg (fun h => by rw [he] at h; cases h.2)]
    · rw [if_pos ⟨hc, fun h => he (h2.2 (h1.1 h))⟩, if_pos ⟨hc, by simpa using he⟩]
  · rw [if_neg (fun h => hc h.1), if_neg (fun h => hc h.1)]
theorem earlier_zero (es : List Ent) (k : Nat) : earlier es k 0 = false := by simp [earlier]
theorem earlier_succ {es : List Ent} {k j : Nat} (hj : j < es.length) (hk : k < es.length) : earlier es k (j + 1) = (earlier es k j || (decide (es[j].doc = es[k].doc) && decide (es[j].field = es[k].field))) := by
  unfold earlier
  rw [List.take_succ_eq_append_getElem hj, List.any_append]
  have : es.getD k ⟨0, 0, []⟩ = es[k] := by simp [hk]
  rw [this]
  congr 1
  simp only [List.any_cons, List.any_nil, Bool.or_false]
  rw [Bool.eq_iff_iff, decide_eq_true_iff, Bool.and_eq_true, decide_eq_true_iff, decide_eq_true_iff]
  unfold spotE
  exact ⟨fun h => Prod.mk.inj h, fun h => Prod.ext h.1 h.2⟩

/-- The documents, put in one by one. -/
def docsR (U : List Ent) : List Int := U.foldl (fun a e => withP a e.doc) []
theorem docsR_snoc (U : List Ent) (e : Ent) : docsR (U ++ [e]) = withP (docsR U) e.doc := by unfold docsR; rw [List.foldl_append]; rfl
theorem docsR_asc : ∀ U : List Ent, (docsR U).Pairwise (· < ·) := by
  intro U
  induction U using snoc_ind with
  | nil => exact List.Pairwise.nil
  | snoc r y ih => rw [docsR_snoc]; exact withP_asc _ _ ih
theorem docsR_mem : ∀ (U : List Ent) (d : Int), d ∈ docsR U ↔ ∃ e, e ∈ U ∧ e.doc = d := by
  intro U
  induction U using snoc_ind with
  | nil => intro d; simp [docsR]
  | snoc r y ih =>
    intro d
    rw [docsR_snoc, withP_mem _ _ (docsR_asc r), ih]
    simp only [List.mem_append, List.mem_singleton]
    constructor
    · rintro (rfl | ⟨e, he, h⟩)
      · exact ⟨y, .inr rfl, rfl⟩
      · exact ⟨e, .inl he, h⟩
    · rintro ⟨e, he | rfl, h⟩
      · exact .inr ⟨e, he, h⟩
      · exact .inl h.symm
theorem docsR_len : ∀ U : List Ent, (docsR U).length ≤ U.length := by
  intro U
  induction U using snoc_ind with
  | nil => exact Nat.le_refl _
  | snoc r y ih => rw [docsR_snoc, List.length_append, List.length_singleton]; exact Nat.le_trans (withP_len _ _) (by omega)

/-- A term without a list. -/
def bare (t : Key) : Trm := ⟨t.1, t.2, []⟩
theorem key_bare (t : Key) : keyT (bare t) = t := rfl
/-- How many terms lie ahead of a key. -/
def posT (ts : List Trm) (t : Key) : Nat := (ts.takeWhile fun x => decide (cmpT x (bare t) < 0)).length
/-- A key put into its place. -/
def addT (ts : List Trm) (t : Key) : List Trm := if posT ts t < ts.length ∧ keyT (ti ts (posT ts t)) = t then ts else ts.take (posT ts t) ++ [bare t] ++ ts.drop (posT ts t)
theorem posT_le (ts : List Trm) (t : Key) : posT ts t ≤ ts.length := (List.takeWhile_prefix _).length_le
theorem posT_at : ∀ (ts : List Trm) (t : Key) (k : Nat), k ≤ ts.length → (∀ j, j < k → cmpT (ti ts j) (bare t) < 0) → (k < ts.length → ¬ cmpT (ti ts k) (bare t) < 0) → posT ts t = k
  | [], t, k, hk, _, _ => by simp at hk; subst hk; rfl
  | x :: r, t, k, hk, h1, h2 => by
    unfold posT
    rw [List.takeWhile_cons]
    cases k with
    | zero =>
      have h3 := h2 (by simp)
      have h4 : ti (x :: r) 0 = x := rfl
      rw [h4] at h3
      rw [if_neg (by simpa using h3)]
      rfl
    | succ k =>
      have h3 := h1 0 (by omega)
      have h4 : ti (x :: r) 0 = x := rfl
      rw [h4] at h3
      rw [if_pos (by simpa using h3)]
      have ih := posT_at r t k (by simpa using hk) (fun j hj => by
        have := h1 (j + 1) (by omega)
        exact this) (fun hl => by
        have := h2 (by simpa using hl)
        exact this)
      unfold posT at ih
      rw [List.length_cons, ih]
theorem posT_ahead (ts : List Trm) (t : Key) : ∀ x, x ∈ ts.take (posT ts t) → cmpT x (bare t) < 0 := by
  intro x hx
  have h : ts.take (posT ts t) = ts.takeWhile fun x => decide (cmpT x (bare t) < 0) := (List.prefix_iff_eq_take.1 (List.takeWhile_prefix _)).symm
  rw [h] at hx
  have := mem_tw hx
  simpa using this
theorem posT_stop {ts : List Trm} {t : Key} (h : posT ts t < ts.length) : ¬ cmpT (ti ts (posT ts t)) (bare t) < 0 := by
  intro hc
  have key : ∀ (ts : List Trm), (ts.takeWhile fun x => decide (cmpT x (bare t) < 0)).length < ts.length → ¬ cmpT (ti ts (ts.takeWhile fun x => decide (cmpT x (bare t) < 0)).length) (bare t) < 0 := by
    intro ts
    induction ts with
    | nil => intro h; simp at h
    | cons x r ih =>
      intro h
      rw [List.takeWhile_cons] at h ⊢
      by_cases hx : cmpT x (bare t) < 0
      · rw [if_pos (by simpa using hx)] at h ⊢
        exact ih (by simpa using h)
      · rw [if_neg (by simpa using hx)]
        exact hx
  exact key ts h hc
theorem cmpT_lt_of_not {a b : Trm} (h : ¬ cmpT a b < 0) (hk : keyT a ≠ keyT b) : cmpT b a < 0 := by
  have h1 := cmpT_swap a b
  have h2 : cmpT a b ≠ 0 := fun e => hk (cmpT_zero e)
  omega
theorem drop_head {ts : List Trm} {k : Nat} (h : k < ts.length) : ts.drop k = ti ts k :: ts.drop (k + 1) := by rw [List.drop_eq_getElem_cons h, ti_get h]
theorem addT_asc {ts : List Trm} (h : ts.Pairwise fun a b => cmpT a b < 0) (t : Key) : (addT ts t).Pairwise fun a b => cmpT a b < 0 := by
  unfold addT
  split
  · exact h
  · rename_i hne
    have h2 : ∀ y, y ∈ ts.drop (posT ts t) → cmpT (bare t) y < 0 := by
      intro y hy
      by_cases hl : posT ts t < ts.length
      · have h3 : cmpT (bare t) (ti ts (posT ts t)) < 0 := cmpT_lt_of_not (posT_stop hl) (fun e => hne ⟨hl, e⟩)
        rw [drop_head hl] at hy
        rcases List.mem_cons.1 hy with rfl | hy
        · exact h3
        · have h4 : (ti ts (posT ts t) :: ts.drop (posT ts t + 1)).Pairwise fun a b => cmpT a b < 0 := by
            rw [← drop_head hl]; exact h.sublist (List.drop_sublist _ _)
          exact cmpT_trans h3 ((List.pairwise_cons.1 h4).1 y hy)
      · rw [List.drop_of_length_le (by omega)] at hy; cases hy
    rw [List.append_assoc, List.pairwise_append]
    refine ⟨h.sublist (List.take_sublist _ _), ?_, ?_⟩
    · rw [List.singleton_append, List.pairwise_cons]
      exact ⟨h2, h.sublist (List.drop_sublist _ _)⟩
    · intro a ha b hb
      rw [List.singleton_append] at hb
      have h3 := posT_ahead ts t a ha
      rcases List.mem_cons.1 hb with rfl | hb
      · exact h3
      · exact cmpT_trans h3 (h2 b hb)
theorem addT_mem {ts : List Trm} (t u : Key) : (∃ x, x ∈ addT ts t ∧ keyT x = u) ↔ (∃ x, x ∈ ts ∧ keyT x = u) ∨ u = t := by
  unfold addT
  split
  · rename_i h
    constructor
    · exact fun h => .inl h
    · rintro (h1 | rfl)
      · exact h1
      · exact ⟨ti ts (posT ts u), by rw [ti_get h.1]; exact List.getElem_mem h.1, h.2⟩
  · constructor
    · rintro ⟨x, hx, rfl⟩
      rw [List.append_assoc, List.mem_append] at hx
      rcases hx with hx | hx
      · exact .inl ⟨x, List.mem_of_mem_take hx, rfl⟩
      · rw [List.singleton_append] at hx
        rcases List.mem_cons.1 hx with rfl | hx
        · exact .inr rfl
        · exact .inl ⟨x, List.mem_of_mem_drop hx, rfl⟩
    · rintro (⟨x, hx, rfl⟩ | rfl)
      · rw [← List.take_append_drop (posT ts t) ts] at hx
        rcases List.mem_append.1 hx with hx | hx
        · exact ⟨x, by rw [List.append_assoc]; exact List.mem_append_left _ hx, rfl⟩
        · exact ⟨x, List.mem_append_right _ hx, rfl⟩
      · exact ⟨bare u, by simp, rfl⟩
theorem addT_len (ts : List Trm) (t : Key) : (addT ts t).length ≤ ts.length + 1 := by
  unfold addT
  split
  · omega
  · rw [List.length_append, List.length_append, List.length_take, List.length_drop, List.length_singleton]; omega
theorem addT_each {ts : List Trm} {t : Key} {P : Trm → Prop} (h : ∀ x, x ∈ ts → P x) (ht : P (bare t)) : ∀ x, x ∈ addT ts t → P x := by
  intro x hx
  unfold addT at hx
  split at hx
  · exact h x hx
  · rw [List.append_assoc, List.mem_append] at hx
    rcases hx with hx | hx
    · exact h x (List.mem_of_mem_take hx)
    · rw [List.singleton_append] at hx
      rcases List.mem_cons.1 hx with rfl | hx
      · exact ht
      · exact h x (List.mem_of_mem_drop hx)
/-- All keys put in. -/
def termsR (ks : List Key) : List Trm := ks.foldl addT []
theorem termsR_snoc (ks : List Key) (t : Key) : termsR (ks ++ [t]) = addT (termsR ks) t := by unfold termsR; rw [List.foldl_append]; rfl
theorem termsR_asc : ∀ ks : List Key, (termsR ks).Pairwise fun a b => cmpT a b < 0 := by
  intro ks
  induction ks using snoc_ind with
  | nil => exact List.Pairwise.nil
  | snoc r y ih => rw [termsR_snoc]; exact addT_asc ih y
theorem termsR_mem : ∀ (ks : List Key) (u : Key), (∃ x, x ∈ termsR ks ∧ keyT x = u) ↔ u ∈ ks := by
  intro ks
  induction ks using snoc_ind with
  | nil => intro u; simp [termsR]
  | snoc r y ih =>
    intro u
    rw [termsR_snoc, addT_mem, ih, List.mem_append, List.mem_singleton]
theorem termsR_len : ∀ ks : List Key, (termsR ks).length ≤ ks.length := by
  intro ks
  induction ks using snoc_ind with
  | nil => exact Nat.le_refl _
  | snoc r y ih => rw [termsR_snoc, List.length_append, List.length_singleton]; have := addT_len (termsR r) y; omega
theorem termsR_bare : ∀ (ks : List Key) (x : Trm), x ∈ termsR ks → x.list = [] ∧ keyT x ∈ ks := by
  intro ks
  induction ks using snoc_ind with
  | nil => intro x hx; simp [termsR] at hx
  | snoc r y ih =>
    rw [termsR_snoc]
    exact addT_each (fun x hx => ⟨(ih x hx).1, by simp [(ih x hx).2]⟩) ⟨rfl, by simp [key_bare]⟩

/-- The postings of one document, entry by entry. -/
def innerR (t : Key) (d : Int) (U : List Ent) : List Post := U.flatMap fun e => if e.doc = d ∧ e.field = t.1 ∧ idxs t.2 (listP e.text) ≠ [] then [⟨e.doc, idxs t.2 (listP e.text)⟩] else []
theorem innerR_none {t : Key} {d : Int} {U : List Ent} (h : ∀ e, e ∈ U → ¬ (e.doc = d ∧ e.field = t.1)) : innerR t d U = [] := by
  unfold innerR
  rw [List.flatMap_eq_nil_iff]
  intro e he
  rw [if_neg (fun hh => h e he ⟨hh.1, hh.2.1⟩)]
theorem innerR_eq : ∀ {U : List Ent}, Apart U → ∀ (t : Key) (d : Int), innerR t d U = if placesE (evsOf U) t d = [] then [] else [⟨d, placesE (evsOf U) t d⟩]
  | [], _, t, d => by
    have h0 : placesE (evsOf []) t d = [] := rfl
    rw [h0, if_pos rfl]; rfl
  | e :: r, ha, t, d => by
    have ha2 := ha
    unfold Apart at ha2
    rw [List.map_cons, List.nodup_cons] at ha2
    have h1 : innerR t d (e :: r) = (if e.doc = d ∧ e.field = t.1 ∧ idxs t.2 (listP e.text) ≠ [] then [⟨e.doc, idxs t.2 (listP e.text)⟩] else []) ++ innerR t d r := rfl
    rw [h1]
    by_cases hd : e.doc = d ∧ e.field = t.1
    · have hr : innerR t d r = [] := innerR_none fun x hx hh => ha2.1 (List.mem_map.2 ⟨x, hx, by unfold spotE; rw [hh.1, hh.2, hd.1, hd.2]⟩)
      have hp : placesE (evsOf (e :: r)) t d = idxs t.2 (listP e.text) := by
        have := placesE_in ha (List.mem_cons_self (a := e) (l := r)) t.2
        rw [hd.1, hd.2] at this
        exact this
      rw [hr, hp, List.append_nil]
      by_cases hi : idxs t.2 (listP e.text) = []
      · rw [if_neg (fun h => h.2.2 hi), if_pos hi]
      · rw [if_pos ⟨hd.1, hd.2, hi⟩, if_neg hi, hd.1]
    · rw [if_neg (fun h => hd ⟨h.1, h.2.1⟩), List.nil_append, innerR_eq ha2.2]
      have hp : placesE (evsOf (e :: r)) t d = placesE (evsOf r) t d := by
        show placesE (evOf e ++ evsOf r) _ _ = _
        rw [placesE_app, placesE_not e t.2 t.1 d hd, List.nil_append]
      rw [hp]
def postsR (U : List Ent) (t : Key) (docs : List Int) : List Post := docs.flatMap fun d => innerR t d U
theorem postsR_eq {U : List Ent} (ha : Apart U) (t : Key) (docs : List Int) : postsR U t docs = postsE (evsOf U) docs t := by
  unfold postsR postsE
  induction docs with
  | nil => rfl
  | cons d r ih =>
    rw [List.flatMap_cons, ih, innerR_eq ha, List.filter_cons]
    by_cases h : placesE (evsOf U) t d = []
    · rw [if_pos h, h]; rfl
    · have hb : (!(placesE (evsOf U) t d).isEmpty) = true := by simpa using h
      rw [if_neg h, if_pos hb]; rfl
/-- What the reference's Build makes. -/
def keysR (U : List Ent) : List Key := (evsOf U).map (·.1)
def listR (U : List Ent) (docs : List Int) (x : Trm) : Trm := { x with list := postEnc (postsE (evsOf U) docs (keyT x)) }
def buildR (U : List Ent) : Seg := ⟨(termsR (keysR U)).map (listR U (docsR U)), docsR U⟩
theorem buildR_built (U : List Ent) : Built U (buildR U) := by
  refine ⟨docsR_asc U, docsR_mem U, ?_, fun t => ?_, fun x hx => ?_⟩
  · show ((termsR (keysR U)).map (listR U (docsR U))).Pairwise _
    rw [List.pairwise_map]
    exact (termsR_asc (keysR U)).imp fun {a b} h => by
      rw [cmpT_congr (a := listR U (docsR U) a) (b := listR U (docsR U) b) (c := a) (d := b) rfl rfl]; exact h
  · have h := termsR_mem (keysR U) t
    show (∃ x, x ∈ (termsR (keysR U)).map (listR U (docsR U)) ∧ keyT x = t) ↔ _
    constructor
    · rintro ⟨x, hx, e⟩
      obtain ⟨y, hy, rfl⟩ := List.mem_map.1 hx
      have := h.1 ⟨y, hy, e⟩
      obtain ⟨z, hz, e2⟩ := List.mem_map.1 this
      exact ⟨z, hz, e2⟩
    · rintro ⟨z, hz, e⟩
      obtain ⟨y, hy, e2⟩ := h.2 (List.mem_map.2 ⟨z, hz, e⟩)
      exact ⟨_, List.mem_map.2 ⟨y, hy, rfl⟩, e2⟩
  · obtain ⟨y, hy, rfl⟩ := List.mem_map.1 hx
    rfl
end Go.Proofs.YtfinpehbpcckaaaGreatDoor
