/- Conversations in plain terms: reachability, the union-find forest, messages that share ties, the lists that answer for them. No program in sight; no condition. -/
namespace Go.Proofs.Ytlobiebmaheflaa
set_option linter.unusedVariables false
/-- b is reached from a by steps of R: whatever holds of a and goes on along R holds of b. -/
def Reach {α : Type} (R : α → α → Prop) (a b : α) : Prop := ∀ P : α → Prop, P a → (∀ x y, P x → R x y → P y) → P b

namespace Reach
variable {α : Type} {R R' : α → α → Prop} {a b c : α}
theorem refl (a : α) : Reach R a a := fun _ h _ => h
theorem snoc (h : Reach R a b) (r : R b c) : Reach R a c := fun P h0 h1 => h1 _ _ (h P h0 h1) r
theorem ind (h : Reach R a b) (motive : α → Prop) (h0 : motive a) (h1 : ∀ x y, Reach R a x → R x y → motive x → motive y) : motive b :=
  (h (fun x => Reach R a x ∧ motive x) ⟨refl a, h0⟩ fun x y ⟨hx, hm⟩ r => ⟨hx.snoc r, h1 x y hx r hm⟩).2
theorem one (h : R a b) : Reach R a b := (refl a).snoc h
theorem trans (h : Reach R a b) (h' : Reach R b c) : Reach R a c := h'.ind (fun z => Reach R a z) h fun _ _ _ r ih => ih.snoc r
theorem symm (hs : ∀ x y, R x y → R y x) (h : Reach R a b) : Reach R b a := h.ind (fun z => Reach R z a) (refl _) fun _ _ _ r ih => (one (hs _ _ r)).trans ih
theorem mono (hm : ∀ x y, R x y → R' x y) (h : Reach R a b) : Reach R' a b := h.ind (fun z => Reach R' a z) (refl _) fun _ _ _ r ih => ih.snoc (hm _ _ r)
theorem inv {P : α → Prop} (hP : ∀ x y, R x y → P x → P y) (h : Reach R a b) (ha : P a) : P b := h.ind P ha fun _ _ _ r ih => hP _ _ r ih
/-- A walk that cannot leave P serves in whatever agrees with R within P. -/
theorem within {P : α → Prop} (hP : ∀ x y, R x y → P x → P y) (hm : ∀ x y, P x → R x y → R' x y) (h : Reach R a b) (ha : P a) : Reach R' a b :=
  h.ind (fun z => Reach R' a z) (refl _) fun _ _ h1 r ih => ih.snoc (hm _ _ (inv hP h1 ha) r)
/-- No way out: a is all that is reached. -/
theorem stuck (h0 : ∀ y, ¬ R a y) (h : Reach R a b) : a = b := h.ind (fun z => a = z) rfl fun _ _ _ r ih => by subst ih; exact absurd r (h0 _)
end Reach

/-- Two classes become one. -/
def joined {α : Type} (E : α → α → Prop) (p q x y : α) : Prop := E x y ∨ (E x p ∧ E q y) ∨ (E x q ∧ E p y)

theorem reach_join {α : Type} {R R' : α → α → Prop} (hs : ∀ x y, R x y → R y x) {p q : α} (hpq : R' p q) (hqp : R' q p) (hR : ∀ x y, R x y → R' x y)
    (hR' : ∀ x y, R' x y → x = y ∨ R x y ∨ (Reach R x p ∧ Reach R q y) ∨ (Reach R x q ∧ Reach R p y)) (x y : α) : Reach R' x y ↔ joined (Reach R) p q x y := by
  constructor
  · intro h
    refine h.ind (fun y => joined (Reach R) p q x y) (.inl (.refl _)) ?_
    intro u v _ r ih
    rcases hR' _ _ r with rfl | r1 | ⟨r1, r2⟩ | ⟨r1, r2⟩
    · exact ih
    · rcases ih with h | ⟨h1, h2⟩ | ⟨h1, h2⟩
      · exact .inl (h.snoc r1)
      · exact .inr (.inl ⟨h1, h2.snoc r1⟩)
      · exact .inr (.inr ⟨h1, h2.snoc r1⟩)
    · rcases ih with h | ⟨h1, h2⟩ | ⟨h1, h2⟩
      · exact .inr (.inl ⟨h.trans r1, r2⟩)
      · exact .inr (.inl ⟨h1, r2⟩)
      · exact .inl (h1.trans r2)
    · rcases ih with h | ⟨h1, h2⟩ | ⟨h1, h2⟩
      · exact .inr (.inr ⟨h.trans r1, r2⟩)
      · exact .inl (h1.trans r2)
      · exact .inr (.inr ⟨h1, r2⟩)
  · rintro (h | ⟨h1, h2⟩ | ⟨h1, h2⟩)
    · exact h.mono hR
    · exact ((h1.mono hR).snoc hpq).trans (h2.mono hR)
    · exact ((h1.mono hR).snoc hqp).trans (h2.mono hR)

/-- One point of a function changed. -/
def upd {α β : Type} [DecidableEq α] (f : α → β) (i : α) (v : β) : α → β := fun j => if j = i then v else f j
theorem upd_same {α β : Type} [DecidableEq α] (f : α → β) (i : α) (v : β) : upd f i v i = v := by simp [upd]
theorem upd_other {α β : Type} [DecidableEq α] (f : α → β) {i j : α} (v : β) (h : j ≠ i) : upd f i v j = f j := by simp [upd, h]

/-- The forest: every live node leads up to its root; a root bears its class's members. -/
structure Forest (live : Nat → Prop) (up root dep : Nat → Nat) (grp : Nat → List Nat) : Prop where
  upL : ∀ x, live x → live (up x)
  upR : ∀ x, live x → root (up x) = root x
  fix : ∀ x, live x → up x = x → root x = x
  dec : ∀ x, live x → up x ≠ x → dep (up x) < dep x
  rootL : ∀ x, live x → live (root x)
  rootF : ∀ x, live x → up (root x) = root x
  grpM : ∀ x, live x → up x = x → ∀ y, y ∈ grp x ↔ (live y ∧ root y = x)
  grpN : ∀ x, live x → up x = x → (grp x).Nodup

namespace Forest
variable {live : Nat → Prop} {up root dep : Nat → Nat} {grp : Nat → List Nat}
theorem rootR (h : Forest live up root dep grp) {x : Nat} (hx : live x) : root (root x) = root x := h.fix _ (h.rootL x hx) (h.rootF x hx)
theorem halve (h : Forest live up root dep grp) {x : Nat} (hx : live x) : Forest live (upd up x (up (up x))) root dep grp := by
  have h2 := h.upL x hx
  have key : ∀ y, live y → upd up x (up (up x)) y = y → up y = y := by
    intro y hy e
    by_cases hyx : y = x
    · subst hyx
      rw [upd_same] at e
      by_cases h3 : up y = y
      · exact h3
      · exfalso
        have d1 := h.dec y hy h3
        by_cases h4 : up (up y) = up y
        · rw [h4] at e; exact h3 e
        · have d2 := h.dec (up y) h2 h4
          rw [e] at d2; omega
    · rwa [upd_other _ _ hyx] at e
  refine ⟨fun y hy => ?_, fun y hy => ?_, fun y hy e => h.fix y hy (key y hy e), fun y hy e => ?_, h.rootL, fun y hy => ?_, fun y hy e => h.grpM y hy (key y hy e), fun y hy e => h.grpN y hy (key y hy e)⟩
  · by_cases hyx : y = x
    · subst hyx; rw [upd_same]; exact h.upL _ h2
    · rw [upd_other _ _ hyx]; exact h.upL y hy
  · by_cases hyx : y = x
    · subst hyx; rw [upd_same, h.upR _ h2, h.upR _ hy]
    · rw [upd_other _ _ hyx]; exact h.upR y hy
  · by_cases hyx : y = x
    · subst hyx
      rw [upd_same] at e ⊢
      have h3 : up y ≠ y := fun h3 => by rw [h3, h3] at e; exact e rfl
      have d1 := h.dec y hy h3
      by_cases h4 : up (up y) = up y
      · rw [h4]; exact d1
      · have := h.dec (up y) h2 h4; omega
    · rw [upd_other _ _ hyx] at e ⊢; exact h.dec y hy e
  · by_cases hyx : root y = x
    · subst hyx; rw [upd_same, h.rootF y hy, h.rootF y hy]
    · rw [upd_other _ _ hyx]; exact h.rootF y hy

/-- The root b hangs below the root a. -/
theorem join (h : Forest live up root dep grp) {a b : Nat} (ha : live a) (hb : live b) (fa : up a = a) (fb : up b = b) (hab : a ≠ b) (g' : Nat → List Nat) (hg1 : g' a = grp a ++ grp b) (hg2 : ∀ x, x ≠ a → x ≠ b → g' x = grp x) :
    Forest live (upd up b a) (fun x => if root x = b then a else root x) (fun x => if root x = b then dep x + dep a + 1 else dep x) g' := by
  have ra := h.fix a ha fa
  have rb := h.fix b hb fb
  have hra : ¬ root a = b := by rw [ra]; exact hab
  have key : ∀ y, live y → upd up b a y = y → up y = y ∧ y ≠ b := by
    intro y hy e
    by_cases hyb : y = b
    · subst hyb; rw [upd_same] at e; exact absurd e hab
    · rw [upd_other _ _ hyb] at e; exact ⟨e, hyb⟩
  refine ⟨fun y hy => ?_, fun y hy => ?_, fun y hy e => ?_, fun y hy e => ?_, fun y hy => ?_, fun y hy => ?_, fun x hx e y => ?_, fun x hx e => ?_⟩
  · by_cases hyb : y = b
    · subst hyb; rw [upd_same]; exact ha
    · rw [upd_other _ _ hyb]; exact h.upL y hy
  · by_cases hyb : y = b
    · subst hyb; rw [upd_same]; simp [rb, ra]
    · rw [upd_other _ _ hyb, h.upR y hy]
  · obtain ⟨e1, e2⟩ := key y hy e
    rw [h.fix y hy e1, if_neg e2]
  · by_cases hyb : y = b
    · subst hyb; rw [upd_same, if_neg hra, rb, if_pos rfl]; omega
    · rw [upd_other _ _ hyb] at e ⊢
      have := h.dec y hy e
      rw [h.upR y hy]
      split <;> omega
  · by_cases h3 : root y = b
    · rw [if_pos h3]; exact ha
    · rw [if_neg h3]; exact h.rootL y hy
  · by_cases h3 : root y = b
    · rw [if_pos h3, upd_other _ _ hab]; exact fa
    · rw [if_neg h3, upd_other _ _ h3]; exact h.rootF y hy
  · obtain ⟨e1, e2⟩ := key x hx e
    by_cases hxa : x = a
    · subst hxa
      rw [hg1, List.mem_append, h.grpM x hx fa, h.grpM b hb fb]
      constructor
      · rintro (⟨h1, h2⟩ | ⟨h1, h2⟩)
        · exact ⟨h1, by simp only [h2, if_neg hab]⟩
        · exact ⟨h1, by simp only [h2, if_true]⟩
      · rintro ⟨h1, h2⟩
        by_cases h3 : root y = b
        · exact .inr ⟨h1, h3⟩
        · simp only [if_neg h3] at h2; exact .inl ⟨h1, h2⟩
    · rw [hg2 x hxa e2, h.grpM x hx e1]
      constructor
      · rintro ⟨h1, h2⟩; exact ⟨h1, by simp only [h2, if_neg e2]⟩
      · rintro ⟨h1, h2⟩
        refine ⟨h1, ?_⟩
        by_cases h3 : root y = b
        · simp only [h3, if_true] at h2; exact absurd h2.symm hxa
        · simpa only [if_neg h3] using h2
  · obtain ⟨e1, e2⟩ := key x hx e
    by_cases hxa : x = a
    · subst hxa
      rw [hg1, List.nodup_append]
      refine ⟨h.grpN x hx fa, h.grpN b hb fb, fun u hu v hv huv => ?_⟩
      subst huv
      have u1 := ((h.grpM x hx fa u).1 hu).2
      have u2 := ((h.grpM b hb fb u).1 hv).2
      exact hab (u1.symm.trans u2)
    · rw [hg2 x hxa e2]; exact h.grpN x hx e1
theorem join_root {a b : Nat} (hab : a ≠ b) (root : Nat → Nat) (x y : Nat) : ((if root x = b then a else root x) = (if root y = b then a else root y)) ↔ (root x = root y ∨ (root x = a ∧ root y = b) ∨ (root x = b ∧ root y = a)) := by
  by_cases h1 : root x = b <;> by_cases h2 : root y = b
  · simp [h1, h2]
  · simp only [h1, h2, if_true, if_false]; constructor
    · intro h; exact .inr (.inr ⟨trivial, h.symm⟩)
    · rintro (h | ⟨h, h'⟩ | ⟨h, h'⟩)
      · exact absurd h.symm h2
      · exact h'.elim
      · exact h'.symm
  · simp only [h1, h2, if_true, if_false]; constructor
    · intro h; exact .inr (.inl ⟨h, trivial⟩)
    · rintro (h | ⟨h, h'⟩ | ⟨h, h'⟩)
      · exact h.elim
      · exact h
      · exact h.elim
  · simp [h1, h2]
end Forest

/-- A base subject and an identifier. -/
abbrev Tie := ByteArray × ByteArray
def lk (live : Nat → Prop) (eff : Nat → Tie → Prop) (x y : Nat) : Prop := live x ∧ live y ∧ ∃ k, eff x k ∧ eff y k
theorem lk_symm {live : Nat → Prop} {eff : Nat → Tie → Prop} (x y : Nat) (h : lk live eff x y) : lk live eff y x := ⟨h.2.1, h.1, h.2.2.imp fun _ h => ⟨h.2, h.1⟩⟩

/-- A forest whose classes are the messages connected by ties; 'tl' lists who bears a tie. -/
structure Knit (live : Nat → Prop) (eff : Nat → Tie → Prop) (up root dep : Nat → Nat) (grp : Nat → List Nat) (tl : Tie → List Nat) : Prop where
  fst : Forest live up root dep grp
  con : ∀ x y, live x → live y → (root x = root y ↔ Reach (lk live eff) x y)
  tlM : ∀ k g, g ∈ tl k ↔ (live g ∧ eff g k)
  tlN : ∀ k, (tl k).Nodup

/-- The tie k is added to n. -/
def effAdd (eff : Nat → Tie → Prop) (n : Nat) (k : Tie) (g : Nat) (k' : Tie) : Prop := eff g k' ∨ (g = n ∧ k' = k)
/-- What a joining leaves. -/
def Merged (live : Nat → Prop) (root root' : Nat → Nat) (p q : Nat) : Prop := ∀ x y, live x → live y → (root' x = root' y ↔ joined (fun x y => root x = root y) p q x y)

namespace Knit
variable {live : Nat → Prop} {eff : Nat → Tie → Prop} {up root dep : Nat → Nat} {grp : Nat → List Nat} {tl : Tie → List Nat}
theorem tlM_add (h : Knit live eff up root dep grp tl) {n : Nat} (hn : live n) (k k' : Tie) (g : Nat) : g ∈ upd tl k (tl k ++ [n]) k' ↔ (live g ∧ effAdd eff n k g k') := by
  unfold effAdd
  by_cases hk : k' = k
  · subst hk
    rw [upd_same, List.mem_append, h.tlM, List.mem_singleton]
    constructor
    · rintro (⟨h1, h2⟩ | rfl)
      · exact ⟨h1, .inl h2⟩
      · exact ⟨hn, .inr ⟨rfl, rfl⟩⟩
    · rintro ⟨h1, h2 | ⟨h2, -⟩⟩
      · exact .inl ⟨h1, h2⟩
      · exact .inr h2
  · rw [upd_other _ _ hk, h.tlM]
    constructor
    · rintro ⟨h1, h2⟩; exact ⟨h1, .inl h2⟩
    · rintro ⟨h1, h2 | ⟨-, h2⟩⟩
      · exact ⟨h1, h2⟩
      · exact absurd h2 hk
theorem tlN_add (h : Knit live eff up root dep grp tl) {n : Nat} {k : Tie} (hk : ¬ eff n k) (k' : Tie) : (upd tl k (tl k ++ [n]) k').Nodup := by
  by_cases e : k' = k
  · subst e
    rw [upd_same, List.nodup_append]
    refine ⟨h.tlN _, by simp, fun u hu v hv huv => ?_⟩
    rw [List.mem_singleton] at hv
    subst hv; subst huv
    exact hk ((h.tlM _ _).1 hu).2
  · rw [upd_other _ _ e]; exact h.tlN _

/-- n is the first to bear k. -/
theorem tie0 (h : Knit live eff up root dep grp tl) {n : Nat} (hn : live n) {k : Tie} (hk : ¬ eff n k) (h0 : tl k = []) : Knit live (effAdd eff n k) up root dep grp (upd tl k (tl k ++ [n])) := by
  refine ⟨h.fst, fun x y hx hy => ?_, fun k' g => h.tlM_add hn k k' g, h.tlN_add hk⟩
  rw [h.con x y hx hy]
  have hno : ∀ g, live g → ¬ eff g k := fun g hg he => by
    have := (h.tlM k g).2 ⟨hg, he⟩
    rw [h0] at this; cases this
  constructor
  · exact Reach.mono fun a b ⟨h1, h2, k', h3, h4⟩ => ⟨h1, h2, k', .inl h3, .inl h4⟩
  · intro hr
    refine hr.ind (fun z => Reach (lk live eff) x z) (.refl _) ?_
    rintro b c _ ⟨r1, r2, k', r3, r4⟩ ih
    rcases r3 with r3 | ⟨rfl, rfl⟩
    · rcases r4 with r4 | ⟨rfl, rfl⟩
      · exact ih.snoc ⟨r1, r2, k', r3, r4⟩
      · exact absurd r3 (hno _ r1)
    · rcases r4 with r4 | ⟨rfl, _⟩
      · exact absurd r4 (hno _ r2)
      · exact ih

/-- n joins those who bear k. -/
theorem tie (h : Knit live eff up root dep grp tl) {n p : Nat} (hn : live n) {k : Tie} (hk : ¬ eff n k) (hp : p ∈ tl k) {up' root' dep' : Nat → Nat} {grp' : Nat → List Nat} (hF : Forest live up' root' dep' grp') (hM : Merged live root root' p n) :
    Knit live (effAdd eff n k) up' root' dep' grp' (upd tl k (tl k ++ [n])) := by
  obtain ⟨hpl, hpk⟩ := (h.tlM _ _).1 hp
  refine ⟨hF, fun x y hx hy => ?_, fun k' g => h.tlM_add hn k k' g, h.tlN_add hk⟩
  have hmono : ∀ x y, lk live eff x y → lk live (effAdd eff n k) x y := fun a b ⟨h1, h2, k', h3, h4⟩ => ⟨h1, h2, k', .inl h3, .inl h4⟩
  have hj := reach_join (R := lk live eff) (R' := lk live (effAdd eff n k)) lk_symm (p := p) (q := n) ⟨hpl, hn, k, .inl hpk, .inr ⟨rfl, rfl⟩⟩ ⟨hn, hpl, k, .inr ⟨rfl, rfl⟩, .inl hpk⟩ hmono (by
    rintro a b ⟨h1, h2, k', h3, h4⟩
    rcases h3 with h3 | ⟨rfl, rfl⟩
    · rcases h4 with h4 | ⟨rfl, rfl⟩
      · exact .inr (.inl ⟨h1, h2, k', h3, h4⟩)
      · exact .inr (.inr (.inl ⟨.one ⟨h1, hpl, k', h3, hpk⟩, .refl _⟩))
    · rcases h4 with h4 | ⟨rfl, _⟩
      · exact .inr (.inr (.inr ⟨.refl _, .one ⟨hpl, h2, k', hpk, h4⟩⟩))
      · exact .inl rfl) x y
  rw [hj, hM x y hx hy]
  show (root x = root y ∨ (root x = root p ∧ root n = root y) ∨ (root x = root n ∧ root p = root y)) ↔ joined (Reach (lk live eff)) p n x y
  unfold joined
  rw [h.con x y hx hy, h.con x p hx hpl, h.con n y hn hy, h.con x n hx hn, h.con p y hpl hy]
end Knit
namespace Knit
variable {live : Nat → Prop} {eff : Nat → Tie → Prop} {up root dep : Nat → Nat} {grp : Nat → List Nat} {tl : Tie → List Nat}
theorem congr (h : Knit live eff up root dep grp tl) {live' : Nat → Prop} {eff' : Nat → Tie → Prop} (hl : ∀ g, live g ↔ live' g) (he : ∀ g k, live g → (eff g k ↔ eff' g k)) : Knit live' eff' up root dep grp tl := by
  obtain rfl : live = live' := funext fun g => propext (hl g)
  refine ⟨h.fst, fun x y hx hy => ?_, fun k g => ?_, h.tlN⟩
  · rw [h.con x y hx hy]
    constructor
    · exact Reach.mono fun a b ⟨h1, h2, k, h3, h4⟩ => ⟨h1, h2, k, (he _ _ h1).1 h3, (he _ _ h2).1 h4⟩
    · exact Reach.mono fun a b ⟨h1, h2, k, h3, h4⟩ => ⟨h1, h2, k, (he _ _ h1).2 h3, (he _ _ h2).2 h4⟩
  · rw [h.tlM]
    constructor
    · rintro ⟨h1, h2⟩; exact ⟨h1, (he _ _ h1).1 h2⟩
    · rintro ⟨h1, h2⟩; exact ⟨h1, (he _ _ h1).2 h2⟩

/-- A new node without ties. -/
theorem fresh (h : Knit live eff up root dep grp tl) {n : Nat} (hn : ¬ live n) (hno : ∀ k, ¬ eff n k) : Knit (fun g => live g ∨ g = n) eff (upd up n n) (upd root n n) dep (upd grp n [n]) tl := by
  have ne : ∀ {g}, live g → g ≠ n := fun hg e => hn (e ▸ hg)
  have hlk : ∀ x y, lk (fun g => live g ∨ g = n) eff x y → lk live eff x y := by
    rintro x y ⟨h1 | rfl, h2 | rfl, k, h3, h4⟩
    · exact ⟨h1, h2, k, h3, h4⟩
    · exact absurd h4 (hno k)
    · exact absurd h3 (hno k)
    · exact absurd h3 (hno k)
  refine ⟨⟨?_, ?_, ?_, ?_, ?_, ?_, ?_, ?_⟩, ?_, ?_, h.tlN⟩
  · rintro x (hx | rfl)
    · rw [upd_other _ _ (ne hx)]; exact .inl (h.fst.upL x hx)
    · rw [upd_same]; exact .inr rfl
  · rintro x (hx | rfl)
    · rw [upd_other up _ (ne hx), upd_other _ _ (ne (h.fst.upL x hx)), upd_other _ _ (ne hx)]; exact h.fst.upR x hx
    · rw [upd_same up]
  · rintro x (hx | rfl) e
    · rw [upd_other _ _ (ne hx)] at e ⊢; exact h.fst.fix x hx e
    · rw [upd_same]
  · rintro x (hx | rfl) e
    · rw [upd_other _ _ (ne hx)] at e ⊢; exact h.fst.dec x hx e
    · exact absurd (upd_same up x x) e
  · rintro x (hx | rfl)
    · rw [upd_other _ _ (ne hx)]; exact .inl (h.fst.rootL x hx)
    · rw [upd_same]; exact .inr rfl
  · rintro x (hx | rfl)
    · rw [upd_other root _ (ne hx), upd_other _ _ (ne (h.fst.rootL x hx))]; exact h.fst.rootF x hx
    · rw [upd_same root, upd_same]
  · rintro x (hx | rfl) e y
    · rw [upd_other _ _ (ne hx)] at e ⊢
      rw [h.fst.grpM x hx e]
      constructor
      · rintro ⟨h1, h2⟩; exact ⟨.inl h1, by rw [upd_other _ _ (ne h1)]; exact h2⟩
      · rintro ⟨h1 | rfl, h2⟩
        · exact ⟨h1, by rwa [upd_other _ _ (ne h1)] at h2⟩
        · rw [upd_same] at h2; exact absurd h2.symm (ne hx)
    · rw [upd_same, List.mem_singleton]
      constructor
      · rintro rfl; exact ⟨.inr rfl, upd_same _ _ _⟩
      · rintro ⟨h1 | rfl, h2⟩
        · rw [upd_other _ _ (ne h1)] at h2; exact absurd h2 (ne (h.fst.rootL y h1))
        · rfl
  · rintro x (hx | rfl) e
    · rw [upd_other _ _ (ne hx)] at e ⊢; exact h.fst.grpN x hx e
    · rw [upd_same]; simp
  · have hmono : ∀ x y, lk live eff x y → lk (fun g => live g ∨ g = n) eff x y := fun x y ⟨h1, h2, h3⟩ => ⟨.inl h1, .inl h2, h3⟩
    have iff : ∀ x y, Reach (lk (fun g => live g ∨ g = n) eff) x y ↔ Reach (lk live eff) x y := fun x y => ⟨Reach.mono hlk, Reach.mono hmono⟩
    rintro x y (hx | rfl) (hy | rfl)
    · rw [upd_other _ _ (ne hx), upd_other _ _ (ne hy), iff]; exact h.con x y hx hy
    · rw [upd_other _ _ (ne hx), upd_same, iff]
      constructor
      · intro e; exact absurd e (ne (h.fst.rootL x hx))
      · intro hr; exact absurd (Reach.stuck (fun z ⟨h1, _⟩ => hn h1) (hr.symm lk_symm)).symm (ne hx)
    · rw [upd_other _ _ (ne hy), upd_same, iff]
      constructor
      · intro e; exact absurd e.symm (ne (h.fst.rootL y hy))
      · intro hr; exact absurd (Reach.stuck (fun z ⟨h1, _⟩ => hn h1) hr).symm (ne hy)
    · exact ⟨fun _ => .refl _, fun _ => rfl⟩
  · intro k g
    rw [h.tlM]
    constructor
    · rintro ⟨h1, h2⟩; exact ⟨.inl h1, h2⟩
    · rintro ⟨h1 | rfl, h2⟩
      · exact ⟨h1, h2⟩
      · exact absurd h2 (hno k)

/-- n's class falls apart, without ties, and n goes. -/
theorem fall (h : Knit live eff up root dep grp tl) {n : Nat} (hn : live n) {gl : List Nat} (hgl : ∀ y, y ∈ gl ↔ (live y ∧ root y = root n)) {up' : Nat → Nat} {grp' : Nat → List Nat} {tl' : Tie → List Nat}
    (hu : ∀ g, g ∈ gl → up' g = g ∧ grp' g = [g]) (hu' : ∀ g, live g → g ∉ gl → up' g = up g ∧ grp' g = grp g) (ht : ∀ k, (∃ m, m ∈ gl ∧ eff m k) → tl' k = []) (ht' : ∀ k, (¬ ∃ m, m ∈ gl ∧ eff m k) → tl' k = tl k) :
    Knit (fun g => live g ∧ g ≠ n) (fun g k => eff g k ∧ g ∉ gl) up' (fun g => if g ∈ gl then g else root g) dep grp' tl' := by
  have hG : ∀ x y, lk live eff x y → x ∈ gl → y ∈ gl := fun x y hl hx => by
    rw [hgl] at hx ⊢
    exact ⟨hl.2.1, ((h.con x y hl.1 hl.2.1).2 (.one hl)).symm.trans hx.2⟩
  have hngl : n ∈ gl := (hgl n).2 ⟨hn, rfl⟩
  have hupG : ∀ g, live g → g ∉ gl → up g ∉ gl := fun g hg hgn hu2 => hgn ((hgl g).2 ⟨hg, (h.fst.upR g hg).symm.trans ((hgl _).1 hu2).2⟩)
  have hrtG : ∀ g, live g → g ∉ gl → root g ∉ gl := fun g hg hgn hu2 => hgn ((hgl g).2 ⟨hg, (h.fst.rootR hg).symm.trans ((hgl _).1 hu2).2⟩)
  have ne : ∀ {g}, g ∉ gl → g ≠ n := fun hg e => hg (e ▸ hngl)
  refine ⟨⟨?_, ?_, ?_, ?_, ?_, ?_, ?_, ?_⟩, ?_, ?_, ?_⟩
  · rintro x ⟨hx, hxn⟩
    by_cases hg : x ∈ gl
    · rw [(hu x hg).1]; exact ⟨hx, hxn⟩
    · rw [(hu' x hx hg).1]; exact ⟨h.fst.upL x hx, ne (hupG x hx hg)⟩
  · rintro x ⟨hx, hxn⟩
    by_cases hg : x ∈ gl
    · rw [(hu x hg).1]
    · rw [(hu' x hx hg).1, if_neg (hupG x hx hg), if_neg hg]; exact h.fst.upR x hx
  · rintro x ⟨hx, hxn⟩ e
    by_cases hg : x ∈ gl
    · rw [if_pos hg]
    · rw [(hu' x hx hg).1] at e; rw [if_neg hg]; exact h.fst.fix x hx e
  · rintro x ⟨hx, hxn⟩ e
    by_cases hg : x ∈ gl
    · exact absurd (hu x hg).1 e
    · rw [(hu' x hx hg).1] at e ⊢; exact h.fst.dec x hx e
  · rintro x ⟨hx, hxn⟩
    by_cases hg : x ∈ gl
    · rw [if_pos hg]; exact ⟨hx, hxn⟩
    · rw [if_neg hg]; exact ⟨h.fst.rootL x hx, ne (hrtG x hx hg)⟩
  · rintro x ⟨hx, hxn⟩
    by_cases hg : x ∈ gl
    · rw [if_pos hg]; exact (hu x hg).1
    · rw [if_neg hg, (hu' _ (h.fst.rootL x hx) (hrtG x hx hg)).1]; exact h.fst.rootF x hx
  · rintro x ⟨hx, hxn⟩ e y
    by_cases hg : x ∈ gl
    · rw [(hu x hg).2, List.mem_singleton]
      constructor
      · rintro rfl; exact ⟨⟨hx, hxn⟩, if_pos hg⟩
      · rintro ⟨⟨hy, hyn⟩, e2⟩
        by_cases hyg : y ∈ gl
        · rwa [if_pos hyg] at e2
        · rw [if_neg hyg] at e2; exact absurd (e2 ▸ hg) (hrtG y hy hyg)
    · rw [(hu' x hx hg).1] at e
      rw [(hu' x hx hg).2, h.fst.grpM x hx e]
      constructor
      · rintro ⟨hy, e2⟩
        have hyg : y ∉ gl := fun hyg => hg ((hgl x).2 ⟨hx, by rw [h.fst.fix x hx e, ← e2]; exact ((hgl y).1 hyg).2⟩)
        exact ⟨⟨hy, ne hyg⟩, by rw [if_neg hyg]; exact e2⟩
      · rintro ⟨⟨hy, hyn⟩, e2⟩
        by_cases hyg : y ∈ gl
        · rw [if_pos hyg] at e2; exact absurd (e2 ▸ hyg) hg
        · rw [if_neg hyg] at e2; exact ⟨hy, e2⟩
  · rintro x ⟨hx, hxn⟩ e
    by_cases hg : x ∈ gl
    · rw [(hu x hg).2]; simp
    · rw [(hu' x hx hg).1] at e; rw [(hu' x hx hg).2]; exact h.fst.grpN x hx e
  · rintro x y ⟨hx, hxn⟩ ⟨hy, hyn⟩
    have hno : ∀ z, z ∈ gl → ∀ u, ¬ lk (fun g => live g ∧ g ≠ n) (fun g k => eff g k ∧ g ∉ gl) z u := fun z hz u ⟨_, _, k, ⟨_, h2⟩, _⟩ => h2 hz
    by_cases hg : x ∈ gl
    · constructor
      · intro e
        rw [if_pos hg] at e
        by_cases hyg : y ∈ gl
        · rw [if_pos hyg] at e; subst e; exact .refl _
        · rw [if_neg hyg] at e; exact absurd (e ▸ hg) (hrtG y hy hyg)
      · intro hr; rw [Reach.stuck (hno x hg) hr]
    · by_cases hyg : y ∈ gl
      · constructor
        · intro e
          rw [if_neg hg, if_pos hyg] at e; exact absurd (e ▸ hyg) (hrtG x hx hg)
        · intro hr; rw [Reach.stuck (hno y hyg) (hr.symm lk_symm)]
      · rw [if_neg hg, if_neg hyg, h.con x y hx hy]
        constructor
        · intro hr
          refine hr.within (P := fun z => z ∉ gl) (fun a b hab ha hb => ha (hG b a (lk_symm _ _ hab) hb)) (fun a b ha hab => ?_) hg
          have hb : b ∉ gl := fun hb => ha (hG b a (lk_symm _ _ hab) hb)
          obtain ⟨h1, h2, k, h3, h4⟩ := hab
          exact ⟨⟨h1, ne ha⟩, ⟨h2, ne hb⟩, k, ⟨h3, ha⟩, ⟨h4, hb⟩⟩
        · exact Reach.mono fun a b ⟨⟨h1, _⟩, ⟨h2, _⟩, k, ⟨h3, _⟩, ⟨h4, _⟩⟩ => ⟨h1, h2, k, h3, h4⟩
  · intro k g
    by_cases hb : ∃ m, m ∈ gl ∧ eff m k
    · rw [ht k hb]
      constructor
      · intro h; cases h
      · rintro ⟨⟨h1, _⟩, h2, h3⟩
        obtain ⟨m, hm, hmk⟩ := hb
        exact absurd (hG m g ⟨((hgl m).1 hm).1, h1, k, hmk, h2⟩ hm) h3
    · rw [ht' k hb, h.tlM]
      constructor
      · rintro ⟨h1, h2⟩
        have : g ∉ gl := fun hg => hb ⟨g, hg, h2⟩
        exact ⟨⟨h1, ne this⟩, h2, this⟩
      · rintro ⟨⟨h1, _⟩, h2, _⟩; exact ⟨h1, h2⟩
  · intro k
    by_cases hb : ∃ m, m ∈ gl ∧ eff m k
    · rw [ht k hb]; simp
    · rw [ht' k hb]; exact h.tlN k
end Knit

/-- A message: its number, its identifiers (none empty), its base subject. -/
structure Msg where
  id : Int
  ids : List ByteArray
  base : ByteArray

def Hangs (a b : Msg) : Prop := a.base = b.base ∧ ∃ x, x ∈ a.ids ∧ x ∈ b.ids
theorem Hangs.symm {a b : Msg} (h : Hangs a b) : Hangs b a := ⟨h.1.symm, h.2.imp fun _ h => ⟨h.2, h.1⟩⟩
/-- Linked within L. -/
def inL (L : List Msg) (a b : Msg) : Prop := a ∈ L ∧ b ∈ L ∧ Hangs a b
theorem inL_symm {L : List Msg} (a b : Msg) (h : inL L a b) : inL L b a := ⟨h.2.1, h.1, h.2.2.symm⟩
/-- Ascending numbers. -/
def Asc (L : List Msg) : Prop := L.Pairwise fun a b => a.id < b.id
/-- The message x of L lies in the conversation of number i. -/
def Memb (L : List Msg) (i : Int) (x : Msg) : Prop := ∃ m, m ∈ L ∧ m.id = i ∧ Reach (inL L) m x
open Classical in
noncomputable def groupOf (L : List Msg) (i : Int) : List Int := (L.filter fun x => decide (Memb L i x)).map (·.id)
noncomputable def allOf (L : List Msg) : List (List Int) := (L.filter fun x => (groupOf L x.id).head? == some x.id).map fun x => groupOf L x.id

/-- Two lists that ascend by f and have the same members are one. -/
theorem asc_ext {α : Type} (f : α → Int) : ∀ {l l' : List α}, l.Pairwise (fun a b => f a < f b) → l'.Pairwise (fun a b => f a < f b) → (∀ x, x ∈ l ↔ x ∈ l') → l = l'
  | [], [], _, _, _ => rfl
  | [], b :: l', _, _, h => by have := (h b).2 (by simp); cases this
  | a :: l, [], _, _, h => by have := (h a).1 (by simp); cases this
  | a :: l, b :: l', h1, h2, h => by
    obtain ⟨h1a, h1b⟩ := List.pairwise_cons.1 h1
    obtain ⟨h2a, h2b⟩ := List.pairwise_cons.1 h2
    have e : a = b := by
      rcases List.mem_cons.1 ((h a).1 (by simp)) with e | e
      · exact e
      · rcases List.mem_cons.1 ((h b).2 (by simp)) with e' | e'
        · exact e'.symm
        · have := h2a a e; have := h1a b e'; omega
    subst e
    rw [asc_ext f h1b h2b fun x => ?_]
    constructor
    · intro hx
      rcases List.mem_cons.1 ((h x).1 (List.mem_cons_of_mem _ hx)) with e | e
      · subst e; have := h1a x hx; omega
      · exact e
    · intro hx
      rcases List.mem_cons.1 ((h x).2 (List.mem_cons_of_mem _ hx)) with e | e
      · subst e; have := h2a x hx; omega
      · exact e

theorem Asc.inj {L : List Msg} (h : Asc L) {a b : Msg} (ha : a ∈ L) (hb : b ∈ L) (e : a.id = b.id) : a = b := by
  induction L with
  | nil => cases ha
  | cons x r ih =>
    obtain ⟨h1, h2⟩ := List.pairwise_cons.1 h
    rcases List.mem_cons.1 ha with rfl | ha' <;> rcases List.mem_cons.1 hb with rfl | hb'
    · rfl
    · have := h1 b hb'; omega
    · have := h1 a ha'; omega
    · exact ih h2 ha' hb'

theorem mem_groupOf {L : List Msg} {i j : Int} : j ∈ groupOf L i ↔ ∃ x, x ∈ L ∧ x.id = j ∧ Memb L i x := by
  unfold groupOf
  simp only [List.mem_map, List.mem_filter, decide_eq_true_eq]
  constructor
  · rintro ⟨x, ⟨h1, h2⟩, h3⟩; exact ⟨x, h1, h3, h2⟩
  · rintro ⟨x, h1, h3, h2⟩; exact ⟨x, ⟨h1, h2⟩, h3⟩
theorem groupOf_asc {L : List Msg} (h : Asc L) (i : Int) : (groupOf L i).Pairwise (· < ·) := by
  unfold groupOf
  rw [List.pairwise_map]
  exact h.filter _
theorem groupOf_none {L : List Msg} {i : Int} (h : ∀ m, m ∈ L → m.id ≠ i) : groupOf L i = [] := by
  rw [List.eq_nil_iff_forall_not_mem]
  intro j hj
  obtain ⟨x, _, _, m, hm, hi, _⟩ := mem_groupOf.1 hj
  exact h m hm hi
theorem groupOf_self {L : List Msg} {m : Msg} (h : m ∈ L) : m.id ∈ groupOf L m.id := mem_groupOf.2 ⟨m, h, rfl, m, h, rfl, .refl _⟩
/-- A list of numbers that ascends and has the conversation's members. -/
theorem groupOf_eq {L : List Msg} (h : Asc L) {i : Int} {l : List Int} (hl : l.Pairwise (· < ·)) (hm : ∀ j, j ∈ l ↔ ∃ x, x ∈ L ∧ x.id = j ∧ Memb L i x) : l = groupOf L i :=
  asc_ext id hl (groupOf_asc h i) fun j => (hm j).trans mem_groupOf.symm
theorem Memb.symm {L : List Msg} {a b : Msg} (ha : a ∈ L) (hb : b ∈ L) (hL : Asc L) (h : Memb L a.id b) : Memb L b.id a := by
  obtain ⟨m, hm, e, hr⟩ := h
  obtain rfl := hL.inj hm ha e
  exact ⟨b, hb, rfl, hr.symm inL_symm⟩
/-- Members of one conversation have one conversation. -/
theorem groupOf_same {L : List Msg} (hL : Asc L) {a b : Msg} (ha : a ∈ L) (hb : b ∈ L) (h : Memb L a.id b) : groupOf L a.id = groupOf L b.id := by
  refine groupOf_eq hL (groupOf_asc hL _) fun j => ?_
  rw [mem_groupOf]
  obtain ⟨m, hm, e, hr⟩ := h
  obtain rfl := hL.inj hm ha e
  refine exists_congr fun x => and_congr_right fun hx => and_congr_right fun _ => ?_
  constructor
  · rintro ⟨m', hm', e', hr'⟩
    obtain rfl := hL.inj hm' hm e'
    exact ⟨b, hb, rfl, (hr.symm inL_symm).trans hr'⟩
  · rintro ⟨m', hm', e', hr'⟩
    obtain rfl := hL.inj hm' hb e'
    exact ⟨m, hm, rfl, hr.trans hr'⟩
theorem memb_of_mem {L : List Msg} (hL : Asc L) {i : Int} {x : Msg} (hx : x ∈ L) (h : x.id ∈ groupOf L i) : Memb L i x := by
  obtain ⟨y, hy, e, hm⟩ := mem_groupOf.1 h
  obtain rfl := hL.inj hy hx e
  exact hm

theorem head_mem {l : List Int} {i : Int} (h : l.head? = some i) : i ∈ l := by
  cases l with
  | nil => cases h
  | cons a r => simp at h; simp [h]
theorem mem_allOf {L : List Msg} (hL : Asc L) {g : List Int} : g ∈ allOf L ↔ ∃ m, m ∈ L ∧ g = groupOf L m.id := by
  unfold allOf
  simp only [List.mem_map, List.mem_filter, beq_iff_eq]
  constructor
  · rintro ⟨x, ⟨h1, _⟩, h3⟩; exact ⟨x, h1, h3.symm⟩
  · rintro ⟨m, hm, rfl⟩
    cases hg : groupOf L m.id with
    | nil => have := groupOf_self hm; rw [hg] at this; cases this
    | cons i r =>
      obtain ⟨x, hx, e, hmx⟩ := mem_groupOf.1 (show i ∈ groupOf L m.id by rw [hg]; simp)
      have hs := groupOf_same hL hm hx hmx
      exact ⟨x, ⟨hx, by rw [← hs, hg, e]; rfl⟩, by rw [← hs, hg]⟩
theorem allOf_asc {L : List Msg} (hL : Asc L) : (allOf L).Pairwise fun a b => a.headD 0 < b.headD 0 := by
  unfold allOf
  rw [List.pairwise_map]
  have h1 := hL.filter (fun x => (groupOf L x.id).head? == some x.id)
  refine List.Pairwise.imp_of_mem ?_ h1
  intro a b ha hb hab
  have ea := (List.mem_filter.1 ha).2
  have eb := (List.mem_filter.1 hb).2
  simp only [beq_iff_eq] at ea eb
  have e1 : (groupOf L a.id).headD 0 = a.id := by cases hg : groupOf L a.id with | nil => rw [hg] at ea; cases ea | cons x r => rw [hg] at ea; simpa using ea
  have e2 : (groupOf L b.id).headD 0 = b.id := by cases hg : groupOf L b.id with | nil => rw [hg] at eb; cases eb | cons x r => rw [hg] at eb; simpa using eb
  rw [e1, e2]; exact hab
theorem allOf_eq {L : List Msg} (hL : Asc L) {l : List (List Int)} (hl : l.Pairwise fun a b => a.headD 0 < b.headD 0) (hm : ∀ g, g ∈ l ↔ ∃ m, m ∈ L ∧ g = groupOf L m.id) : l = allOf L :=
  asc_ext (fun g => g.headD 0) hl (allOf_asc hL) fun g => (hm g).trans (mem_allOf hL).symm

/-- A message at its place. -/
def ins (m : Msg) : List Msg → List Msg
  | [] => [m]
  | x :: r => if x.id < m.id then x :: ins m r else m :: x :: r
theorem mem_ins {m x : Msg} : ∀ {L : List Msg}, x ∈ ins m L ↔ x = m ∨ x ∈ L
  | [] => by simp [ins]
  | y :: r => by
    unfold ins
    split
    · simp only [List.mem_cons, mem_ins (L := r)]; constructor
      · rintro (h | h | h) <;> simp [h]
      · rintro (h | h | h) <;> simp [h]
    · simp [List.mem_cons]
theorem ins_asc {m : Msg} : ∀ {L : List Msg}, Asc L → (∀ x, x ∈ L → x.id ≠ m.id) → Asc (ins m L)
  | [], _, _ => by simp [ins, Asc]
  | y :: r, h, hne => by
    obtain ⟨h1, h2⟩ := List.pairwise_cons.1 h
    unfold ins
    split
    · rename_i hlt
      refine List.pairwise_cons.2 ⟨fun x hx => ?_, ins_asc h2 fun x hx => hne x (by simp [hx])⟩
      rcases mem_ins.1 hx with rfl | hx
      · exact hlt
      · exact h1 x hx
    · rename_i hlt
      have := hne y (by simp)
      refine List.pairwise_cons.2 ⟨fun x hx => ?_, h⟩
      rcases List.mem_cons.1 hx with rfl | hx
      · omega
      · have := h1 x hx; omega
theorem ins_len {m : Msg} : ∀ {L : List Msg}, (ins m L).length = L.length + 1
  | [] => rfl
  | y :: r => by unfold ins; split <;> simp [ins_len (L := r)]
/-- All but number i. -/
def del (i : Int) (L : List Msg) : List Msg := L.filter fun x => x.id != i
theorem mem_del {i : Int} {x : Msg} {L : List Msg} : x ∈ del i L ↔ x ∈ L ∧ x.id ≠ i := by simp [del]
theorem del_asc {i : Int} {L : List Msg} (h : Asc L) : Asc (del i L) := h.filter _
theorem del_none {i : Int} {L : List Msg} (h : ∀ x, x ∈ L → x.id ≠ i) : del i L = L := List.filter_eq_self.2 fun x hx => by simpa using h x hx
theorem asc_msgs {L L' : List Msg} (h : Asc L) (h' : Asc L') (hm : ∀ x, x ∈ L ↔ x ∈ L') : L = L' := asc_ext (fun m : Msg => m.id) h h' hm
theorem del_ins {m : Msg} {L : List Msg} (h : Asc L) (hne : ∀ x, x ∈ L → x.id ≠ m.id) : del m.id (ins m L) = L :=
  asc_msgs (del_asc (ins_asc h hne)) h fun x => by
    rw [mem_del, mem_ins]
    constructor
    · rintro ⟨rfl | h1, h2⟩
      · exact absurd rfl h2
      · exact h1
    · intro hx; exact ⟨.inr hx, hne x hx⟩

/-- The live nodes bear the messages: each node one message, each message one node. -/
structure Bears (nd : List (Msg × Nat)) (live : Nat → Prop) (eff : Nat → Tie → Prop) : Prop where
  lv : ∀ g, live g ↔ ∃ m, (m, g) ∈ nd
  ef : ∀ g k, live g → (eff g k ↔ ∃ m, (m, g) ∈ nd ∧ k.1 = m.base ∧ k.2 ∈ m.ids)
  one : ∀ m m' g, (m, g) ∈ nd → (m', g) ∈ nd → m = m'
  uno : ∀ m g g', (m, g) ∈ nd → (m, g') ∈ nd → g = g'
  asc : Asc (nd.map (·.1))

def msgs (nd : List (Msg × Nat)) : List Msg := nd.map (·.1)
theorem mem_msgs {nd : List (Msg × Nat)} {m : Msg} : m ∈ msgs nd ↔ ∃ g, (m, g) ∈ nd := by simp [msgs]

namespace Bears
variable {nd : List (Msg × Nat)} {live : Nat → Prop} {eff : Nat → Tie → Prop}
theorem link (h : Bears nd live eff) {m m' : Msg} {g g' : Nat} (hm : (m, g) ∈ nd) (hm' : (m', g') ∈ nd) : lk live eff g g' ↔ inL (msgs nd) m m' := by
  have l1 := (h.lv g).2 ⟨m, hm⟩
  have l2 := (h.lv g').2 ⟨m', hm'⟩
  constructor
  · rintro ⟨_, _, k, h3, h4⟩
    obtain ⟨a, ha, ha1, ha2⟩ := (h.ef g k l1).1 h3
    obtain ⟨b, hb, hb1, hb2⟩ := (h.ef g' k l2).1 h4
    obtain rfl := h.one _ _ _ hm ha
    obtain rfl := h.one _ _ _ hm' hb
    exact ⟨mem_msgs.2 ⟨g, hm⟩, mem_msgs.2 ⟨g', hm'⟩, ha1.symm.trans hb1, k.2, ha2, hb2⟩
  · rintro ⟨_, _, h3, x, h4, h5⟩
    exact ⟨l1, l2, (m.base, x), (h.ef g _ l1).2 ⟨m, hm, rfl, h4⟩, (h.ef g' _ l2).2 ⟨m', hm', h3, h5⟩⟩
theorem reach (h : Bears nd live eff) {m m' : Msg} {g g' : Nat} (hm : (m, g) ∈ nd) (hm' : (m', g') ∈ nd) : Reach (lk live eff) g g' ↔ Reach (inL (msgs nd)) m m' := by
  constructor
  · intro hr
    refine hr.ind (fun x => ∀ y, (y, x) ∈ nd → Reach (inL (msgs nd)) m y) (fun y hy => by rw [h.one _ _ _ hm hy]; exact .refl _) ?_ m' hm'
    intro b c _ r ih y hy
    obtain ⟨z, hz⟩ := (h.lv b).1 r.1
    exact (ih z hz).snoc ((h.link hz hy).1 r)
  · intro hr
    refine hr.ind (fun x => ∀ y, (x, y) ∈ nd → Reach (lk live eff) g y) (fun y hy => by rw [h.uno _ _ _ hm hy]; exact .refl _) ?_ g' hm'
    intro b c _ r ih y hy
    obtain ⟨z, hz⟩ := mem_msgs.1 r.1
    exact (ih z hz).snoc ((h.link hz hy).2 r)

variable {up root dep : Nat → Nat} {grp : Nat → List Nat} {tl : Tie → List Nat}
theorem memb (h : Bears nd live eff) (K : Knit live eff up root dep grp tl) {m m' : Msg} {g g' : Nat} (hm : (m, g) ∈ nd) (hm' : (m', g') ∈ nd) : root g = root g' ↔ Memb (msgs nd) m.id m' := by
  rw [K.con g g' ((h.lv g).2 ⟨m, hm⟩) ((h.lv g').2 ⟨m', hm'⟩), h.reach hm hm']
  constructor
  · intro hr; exact ⟨m, mem_msgs.2 ⟨g, hm⟩, rfl, hr⟩
  · rintro ⟨a, ha, e, hr⟩
    obtain rfl := h.asc.inj ha (mem_msgs.2 ⟨g, hm⟩) e
    exact hr
/-- The numbers of a node's group are those of its conversation. -/
theorem group (h : Bears nd live eff) (K : Knit live eff up root dep grp tl) {num : Nat → Int} (hnum : ∀ m g, (m, g) ∈ nd → num g = m.id) {m : Msg} {g : Nat} (hm : (m, g) ∈ nd) {l : List Int} (hl : l.Pairwise (· < ·))
    (hmem : ∀ j, j ∈ l ↔ j ∈ (grp (root g)).map num) : l = groupOf (msgs nd) m.id := by
  have lg := (h.lv g).2 ⟨m, hm⟩
  refine groupOf_eq h.asc hl fun j => ?_
  rw [hmem, List.mem_map]
  constructor
  · rintro ⟨y, hy, rfl⟩
    obtain ⟨y1, y2⟩ := (K.fst.grpM _ (K.fst.rootL g lg) (K.fst.rootF g lg) y).1 hy
    obtain ⟨x, hx⟩ := (h.lv y).1 y1
    exact ⟨x, mem_msgs.2 ⟨y, hx⟩, (hnum _ _ hx).symm, (h.memb K hm hx).1 y2.symm⟩
  · rintro ⟨x, hx, rfl, hmx⟩
    obtain ⟨y, hy⟩ := mem_msgs.1 hx
    exact ⟨y, (K.fst.grpM _ (K.fst.rootL g lg) (K.fst.rootF g lg) y).2 ⟨(h.lv y).2 ⟨x, hy⟩, ((h.memb K hm hy).2 hmx).symm⟩, hnum _ _ hy⟩
/-- The members of a group bear different numbers. -/
theorem group_nodup (h : Bears nd live eff) (K : Knit live eff up root dep grp tl) {num : Nat → Int} (hnum : ∀ m g, (m, g) ∈ nd → num g = m.id) {g : Nat} (lg : live g) (hg : up g = g) : ((grp g).map num).Nodup := by
  have hN := K.fst.grpN g lg hg
  have hM := K.fst.grpM g lg hg
  rw [List.nodup_iff_pairwise_ne] at hN
  rw [List.nodup_iff_pairwise_ne, List.pairwise_map]
  refine hN.imp_of_mem ?_
  intro a b ha hb hab e
  obtain ⟨x, hx⟩ := (h.lv a).1 ((hM a).1 ha).1
  obtain ⟨y, hy⟩ := (h.lv b).1 ((hM b).1 hb).1
  rw [hnum _ _ hx, hnum _ _ hy] at e
  obtain rfl := h.asc.inj (mem_msgs.2 ⟨a, hx⟩) (mem_msgs.2 ⟨b, hy⟩) e
  exact hab (h.uno _ _ _ hx hy)

/-- A message comes. -/
theorem come (h : Bears nd live eff) {n : Nat} (hn : ¬ live n) {m : Msg} (hm : ∀ x, x ∈ msgs nd → x.id ≠ m.id) {nd' : List (Msg × Nat)} (hasc : Asc (nd'.map (·.1))) (hmem : ∀ p, p ∈ nd' ↔ p = (m, n) ∨ p ∈ nd)
    {eff' : Nat → Tie → Prop} (heff : ∀ g k, live g → (eff' g k ↔ eff g k)) (heff' : ∀ k, eff' n k ↔ (k.1 = m.base ∧ k.2 ∈ m.ids)) : Bears nd' (fun g => live g ∨ g = n) eff' := by
  have nn : ∀ x, (x, n) ∉ nd := fun x hx => hn ((h.lv n).2 ⟨x, hx⟩)
  refine ⟨fun g => ?_, fun g k hg => ?_, fun a b g ha hb => ?_, fun a g g' ha hb => ?_, hasc⟩
  · rw [h.lv]
    constructor
    · rintro (⟨x, hx⟩ | rfl)
      · exact ⟨x, (hmem _).2 (.inr hx)⟩
      · exact ⟨m, (hmem _).2 (.inl rfl)⟩
    · rintro ⟨x, hx⟩
      rcases (hmem _).1 hx with e | hx
      · injection e with _ e; exact .inr e
      · exact .inl ⟨x, hx⟩
  · rcases hg with hg | rfl
    · rw [heff g k hg, h.ef g k hg]
      constructor
      · rintro ⟨x, hx, h2⟩; exact ⟨x, (hmem _).2 (.inr hx), h2⟩
      · rintro ⟨x, hx, h2⟩
        rcases (hmem _).1 hx with e | hx
        · injection e with _ e; subst e; exact absurd hg hn
        · exact ⟨x, hx, h2⟩
    · rw [heff']
      constructor
      · intro h2; exact ⟨m, (hmem _).2 (.inl rfl), h2⟩
      · rintro ⟨x, hx, h2⟩
        rcases (hmem _).1 hx with e | hx
        · injection e with e _; subst e; exact h2
        · exact absurd hx (nn x)
  · rcases (hmem _).1 ha with e | ha <;> rcases (hmem _).1 hb with e' | hb
    · injection e with e _; injection e' with e' _; rw [e, e']
    · injection e with _ e; subst e; exact absurd hb (nn b)
    · injection e' with _ e'; subst e'; exact absurd ha (nn a)
    · exact h.one _ _ _ ha hb
  · rcases (hmem _).1 ha with e | ha <;> rcases (hmem _).1 hb with e' | hb
    · injection e with _ e; injection e' with _ e'; rw [e, e']
    · injection e with e _; subst e; exact absurd rfl (hm a (mem_msgs.2 ⟨_, hb⟩))
    · injection e' with e' _; subst e'; exact absurd rfl (hm a (mem_msgs.2 ⟨_, ha⟩))
    · exact h.uno _ _ _ ha hb
/-- A message goes. -/
theorem go (h : Bears nd live eff) {n : Nat} {m : Msg} (hm : (m, n) ∈ nd) {eff' : Nat → Tie → Prop} (heff : ∀ g k, live g → g ≠ n → (eff' g k ↔ eff g k)) :
    Bears (nd.filter fun p => p.1.id != m.id) (fun g => live g ∧ g ≠ n) eff' := by
  have hmem : ∀ x g, (x, g) ∈ nd.filter (fun p => p.1.id != m.id) ↔ (x, g) ∈ nd ∧ g ≠ n := by
    intro x g
    simp only [List.mem_filter, bne_iff_ne, ne_eq]
    constructor
    · rintro ⟨h1, h2⟩
      refine ⟨h1, fun e => h2 ?_⟩
      subst e
      rw [h.one _ _ _ h1 hm]
    · rintro ⟨h1, h2⟩
      refine ⟨h1, fun e => h2 ?_⟩
      obtain rfl := h.asc.inj (mem_msgs.2 ⟨_, h1⟩) (mem_msgs.2 ⟨_, hm⟩) e
      exact h.uno _ _ _ h1 hm
  refine ⟨fun g => ?_, fun g k hg => ?_, fun a b g ha hb => h.one _ _ _ ((hmem _ _).1 ha).1 ((hmem _ _).1 hb).1, fun a g g' ha hb => h.uno _ _ _ ((hmem _ _).1 ha).1 ((hmem _ _).1 hb).1, ?_⟩
  · rw [h.lv]
    constructor
    · rintro ⟨⟨x, hx⟩, hg⟩; exact ⟨x, (hmem _ _).2 ⟨hx, hg⟩⟩
    · rintro ⟨x, hx⟩; exact ⟨⟨x, ((hmem _ _).1 hx).1⟩, ((hmem _ _).1 hx).2⟩
  · rw [heff g k hg.1 hg.2, h.ef g k hg.1]
    constructor
    · rintro ⟨x, hx, h2⟩; exact ⟨x, (hmem _ _).2 ⟨hx, hg.2⟩, h2⟩
    · rintro ⟨x, hx, h2⟩; exact ⟨x, ((hmem _ _).1 hx).1, h2⟩
  · have := h.asc
    unfold Asc at this ⊢
    rw [List.pairwise_map] at this ⊢
    exact this.filter _
end Bears
theorem msgs_filter (nd : List (Msg × Nat)) (i : Int) : msgs (nd.filter fun p => p.1.id != i) = del i (msgs nd) := by
  unfold msgs del
  rw [List.filter_map]; rfl

end Go.Proofs.Ytlobiebmaheflaa
