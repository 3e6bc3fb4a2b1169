/- Layer 33, plain: two ascending lists merged; the union of postings, and the reference's union. Layer 33: the program's merge of two lists of integers, told to a function value. Layer 5: the table of spans and the search in it. -/
import Derived.Deep.CutBlock
import Derived.Test.YtfinpehbpcckaaaGreatDoorM03
import Derived.Test.YtfinpehbpcckaaaGreatDoorM06
section
namespace Go.Proofs.YtfinpehbpcckaaaGreatDoor
set_option linter.unusedVariables false

/-- The events of a merge by key. -/
def evs {α : Type} (key : α → Int) : List α → List α → List (Option α × Option α)
  | [], [] => []
  | [], b :: t => (none, some b) :: evs key [] t
  | a :: r, [] => (some a, none) :: evs key r []
  | a :: r, b :: t => if key a < key b then (some a, none) :: evs key r (b :: t) else if key b < key a then (none, some b) :: evs key (a :: r) t else (some a, some b) :: evs key r t
termination_by a b => a.length + b.length
section
variable {α β : Type} {key : α → Int}
theorem evs_nil : evs key [] [] = [] := by rw [evs]
theorem evs_right (b : α) (t : List α) : evs key [] (b :: t) = (none, some b) :: evs key [] t := by rw [evs]
theorem evs_left (a : α) (r : List α) : evs key (a :: r) [] = (some a, none) :: evs key r [] := by rw [evs]
theorem evs_lt {a b : α} {r t : List α} (h : key a < key b) : evs key (a :: r) (b :: t) = (some a, none) :: evs key r (b :: t) := by rw [evs, if_pos h]
theorem evs_gt {a b : α} {r t : List α} (h : key b < key a) : evs key (a :: r) (b :: t) = (none, some b) :: evs key (a :: r) t := by rw [evs, if_neg (by omega), if_pos h]
theorem evs_eq {a b : α} {r t : List α} (h : key a = key b) : evs key (a :: r) (b :: t) = (some a, some b) :: evs key r t := by rw [evs, if_neg (by omega), if_neg (by omega)]
/-- An induction over the steps of a merge. -/
theorem evs_ind {P : List α → List α → Prop} (h0 : P [] []) (h1 : ∀ b t, P [] t → P [] (b :: t)) (h2 : ∀ a r, P r [] → P (a :: r) [])
    (h3 : ∀ a r b t, key a < key b → P r (b :: t) → P (a :: r) (b :: t)) (h4 : ∀ a r b t, key b < key a → P (a :: r) t → P (a :: r) (b :: t)) (h5 : ∀ a r b t, key a = key b → P r t → P (a :: r) (b :: t)) :
    ∀ a b, P a b := by
  have key : ∀ n (a b : List α), a.length + b.length ≤ n → P a b := by
    intro n
    induction n with
    | zero =>
      intro a b h
      cases a with
      | nil => cases b with
        | nil => exact h0
        | cons b t => simp at h
      | cons a r => simp at h
    | succ n ih =>
      intro a b h
      cases a with
      | nil => cases b with
        | nil => exact h0
        | cons b t => exact h1 _ _ (ih _ _ (by simp at h ⊢; omega))
      | cons a r => cases b with
        | nil => exact h2 _ _ (ih _ _ (by simp at h ⊢; omega))
        | cons b t =>
          simp at h
          rcases Int.lt_trichotomy (key a) (key b) with h6 | h6 | h6
          · exact h3 _ _ _ _ h6 (ih _ _ (by simp; omega))
          · exact h5 _ _ _ _ h6 (ih _ _ (by omega))
          · exact h4 _ _ _ _ h6 (ih _ _ (by simp; omega))
  exact fun a b => key _ a b (Nat.le_refl _)
theorem evs_len : ∀ a b : List α, (evs key a b).length ≤ a.length + b.length := by
  refine evs_ind (key := key) ?_ ?_ ?_ ?_ ?_ ?_
  · simp [evs_nil]
  · intro b t h; rw [evs_right]; simp at h ⊢; omega
  · intro a r h; rw [evs_left]; simp at h ⊢; omega
  · intro a r b t h1 h; rw [evs_lt h1]; simp at h ⊢; omega
  · intro a r b t h1 h; rw [evs_gt h1]; simp at h ⊢; omega
  · intro a r b t h1 h; rw [evs_eq h1]; simp at h ⊢; omega
/-- Keys alone. -/
theorem evs_map : ∀ a b : List α, evs id (a.map key) (b.map key) = (evs key a b).map fun e => (e.1.map key, e.2.map key) := by
  refine evs_ind (key := key) ?_ ?_ ?_ ?_ ?_ ?_
  · simp [evs_nil]
  · intro b t h; simp only [List.map_nil, List.map_cons] at h ⊢; rw [evs_right, evs_right, h]; rfl
  · intro a r h; simp only [List.map_nil, List.map_cons] at h ⊢; rw [evs_left, evs_left, h]; rfl
  · intro a r b t h1 h; simp only [List.map_cons] at h ⊢; rw [evs_lt h1, evs_lt (by exact h1), h]; rfl
  · intro a r b t h1 h; simp only [List.map_cons] at h ⊢; rw [evs_gt h1, evs_gt (by exact h1), h]; rfl
  · intro a r b t h1 h; simp only [List.map_cons] at h ⊢; rw [evs_eq h1, evs_eq (by exact h1), h]; rfl
/-- Ascending by key. -/
def AscK (key : α → Int) (l : List α) : Prop := l.Pairwise fun x y => key x < key y
/-- What an event of two ascending lists says. -/
def EvOk (key : α → Int) (a b : List α) (e : Option α × Option α) : Prop := match e with
  | (none, none) => False
  | (some x, none) => x ∈ a ∧ ∀ y, y ∈ b → key y ≠ key x
  | (none, some y) => y ∈ b ∧ ∀ x, x ∈ a → key x ≠ key y
  | (some x, some y) => x ∈ a ∧ y ∈ b ∧ key x = key y
theorem EvOk.more {a b a' b' : List α} {e : Option α × Option α} (h : EvOk key a b e) (ha : ∀ x, x ∈ a → x ∈ a') (hb : ∀ x, x ∈ b → x ∈ b') (h1 : ∀ y, e.2 = some y → ∀ x, x ∈ a' → x ∉ a → key x ≠ key y) (h2 : ∀ x, e.1 = some x → ∀ y, y ∈ b' → y ∉ b → key y ≠ key x) : EvOk key a' b' e := by
  obtain ⟨x, y⟩ := e
  cases x with
  | none => cases y with
    | none => exact h
    | some y => exact ⟨hb _ h.1, fun x hx => by
        by_cases hm : x ∈ a
        · exact h.2 x hm
        · exact h1 y rfl x hx hm⟩
  | some x => cases y with
    | none => exact ⟨ha _ h.1, fun y hy => by
        by_cases hm : y ∈ b
        · exact h.2 y hm
        · exact h2 x rfl y hy hm⟩
    | some y => exact ⟨ha _ h.1, hb _ h.2.1, h.2.2⟩
theorem EvOk.lower {a b : List α} {e : Option α × Option α} (h : EvOk key a b e) {low : Int} (ha : ∀ x, x ∈ a → low < key x) (hb : ∀ x, x ∈ b → low < key x) : (∀ y, e.2 = some y → low < key y) ∧ ∀ x, e.1 = some x → low < key x := by
  obtain ⟨x, y⟩ := e
  cases x with
  | none => cases y with
    | none => exact h.elim
    | some y => exact ⟨fun z hz => (by injection hz with hz; subst hz; exact hb _ h.1), fun z hz => (by cases hz)⟩
  | some x => cases y with
    | none => exact ⟨fun z hz => (by cases hz), fun z hz => (by injection hz with hz; subst hz; exact ha _ h.1)⟩
    | some y => exact ⟨fun z hz => (by injection hz with hz; subst hz; exact hb _ h.2.1), fun z hz => (by injection hz with hz; subst hz; exact ha _ h.1)⟩
theorem evs_ok : ∀ a b : List α, AscK key a → AscK key b → ∀ e, e ∈ evs key a b → EvOk key a b e := by
  refine evs_ind (key := key) ?_ ?_ ?_ ?_ ?_ ?_
  · intro _ _ e he; rw [evs_nil] at he; cases he
  · intro b t ih ha hb e he
    rw [evs_right] at he
    rcases List.mem_cons.1 he with rfl | he
    · exact ⟨by simp, fun x hx => by cases hx⟩
    · exact (ih ha (List.pairwise_cons.1 hb).2 e he).more (fun x h => h) (fun x h => by simp [h]) (fun y _ x hx => by cases hx) (fun x hx y hy hn => by
        have := ih ha (List.pairwise_cons.1 hb).2 e he
        obtain ⟨e1, e2⟩ := e
        dsimp only at hx
        subst hx
        cases e2 with
        | none => cases this.1
        | some z => cases this.1)
  · intro a r ih ha hb e he
    rw [evs_left] at he
    rcases List.mem_cons.1 he with rfl | he
    · exact ⟨by simp, fun x hx => by cases hx⟩
    · exact (ih (List.pairwise_cons.1 ha).2 hb e he).more (fun x h => by simp [h]) (fun x h => h) (fun y hy x hx hn => by
        have := ih (List.pairwise_cons.1 ha).2 hb e he
        obtain ⟨e1, e2⟩ := e
        dsimp only at hy
        subst hy
        cases e1 with
        | none => cases this.1
        | some z => cases this.2.1) (fun y _ x hx => by cases hx)
  · intro a r b t h1 ih ha hb e he
    rw [evs_lt h1] at he
    have ha' := List.pairwise_cons.1 ha
    have hb' := List.pairwise_cons.1 hb
    have hbl : ∀ y, y ∈ b :: t → key a < key y := fun y hy => by
      rcases List.mem_cons.1 hy with rfl | hy
      · exact h1
      · have := hb'.1 y hy; omega
    rcases List.mem_cons.1 he with rfl | he
    · exact ⟨by simp, fun y hy => by have := hbl y hy; omega⟩
    · have hk := ih ha'.2 hb e he
      have hl := hk.lower (low := key a) ha'.1 hbl
      exact hk.more (fun x h => by simp [h]) (fun x h => h) (fun y hy x hx hn => by
        rcases List.mem_cons.1 hx with rfl | hx
        · have := hl.1 y hy; omega
        · exact absurd hx hn) (fun x hx y hy hn => absurd hy hn)
  · intro a r b t h1 ih ha hb e he
    rw [evs_gt h1] at he
    have ha' := List.pairwise_cons.1 ha
    have hb' := List.pairwise_cons.1 hb
    have hal : ∀ y, y ∈ a :: r → key b < key y := fun y hy => by
      rcases List.mem_cons.1 hy with rfl | hy
      · exact h1
      · have := ha'.1 y hy; omega
    rcases List.mem_cons.1 he with rfl | he
    · exact ⟨by simp, fun y hy => by have := hal y hy; omega⟩
    · have hk := ih ha hb'.2 e he
      have hl := hk.lower (low := key b) hal hb'.1
      exact hk.more (fun x h => h) (fun x h => by simp [h]) (fun y hy x hx hn => absurd hx hn) (fun x hx y hy hn => by
        rcases List.mem_cons.1 hy with rfl | hy
        · have := hl.2 x hx; omega
        · exact absurd hy hn)
  · intro a r b t h1 ih ha hb e he
    rw [evs_eq h1] at he
    have ha' := List.pairwise_cons.1 ha
    have hb' := List.pairwise_cons.1 hb
    rcases List.mem_cons.1 he with rfl | he
    · exact ⟨by simp, by simp, h1⟩
    · have hk := ih ha'.2 hb'.2 e he
      have hl := hk.lower (low := key a) ha'.1 (fun y hy => by have := hb'.1 y hy; omega)
      exact hk.more (fun x h => by simp [h]) (fun x h => by simp [h]) (fun y hy x hx hn => by
        rcases List.mem_cons.1 hx with rfl | hx
        · have := hl.1 y hy; omega
        · exact absurd hx hn) (fun x hx y hy hn => by
        rcases List.mem_cons.1 hy with rfl | hy
        · have := hl.2 x hx; omega
        · exact absurd hy hn)
/-- The key of an event. -/
def evKey (key : α → Int) (e : Option α × Option α) : Int := match e with
  | (some x, _) => key x
  | (none, some y) => key y
  | (none, none) => 0
/-- The keys of the events ascend; each key of either list is one. -/
theorem evs_asc : ∀ a b : List α, AscK key a → AscK key b → ((evs key a b).map (evKey key)).Pairwise (· < ·) ∧ ∀ k, k ∈ (evs key a b).map (evKey key) ↔ (∃ x, x ∈ a ∧ key x = k) ∨ ∃ y, y ∈ b ∧ key y = k := by
  refine evs_ind (key := key) ?_ ?_ ?_ ?_ ?_ ?_
  · intro _ _; rw [evs_nil]; simp
  · intro b t ih ha hb
    have hb' := List.pairwise_cons.1 hb
    obtain ⟨i1, i2⟩ := ih ha hb'.2
    rw [evs_right, List.map_cons, List.pairwise_cons]
    refine ⟨⟨fun k hk => ?_, i1⟩, fun k => ?_⟩
    · rcases (i2 k).1 hk with ⟨x, hx, _⟩ | ⟨y, hy, rfl⟩
      · cases hx
      · exact hb'.1 y hy
    · rw [List.mem_cons, i2]; simp [evKey, eq_comm]
  · intro a r ih ha hb
    have ha' := List.pairwise_cons.1 ha
    obtain ⟨i1, i2⟩ := ih ha'.2 hb
    rw [evs_left, List.map_cons, List.pairwise_cons]
    refine ⟨⟨fun k hk => ?_, i1⟩, fun k => ?_⟩
    · rcases (i2 k).1 hk with ⟨y, hy, rfl⟩ | ⟨x, hx, _⟩
      · exact ha'.1 y hy
      · cases hx
    · rw [List.mem_cons, i2]; simp [evKey, eq_comm]
  · intro a r b t h1 ih ha hb
    have ha' := List.pairwise_cons.1 ha
    have hb' := List.pairwise_cons.1 hb
    obtain ⟨i1, i2⟩ := ih ha'.2 hb
    rw [evs_lt h1, List.map_cons, List.pairwise_cons]
    refine ⟨⟨fun k hk => ?_, i1⟩, fun k => ?_⟩
    · show key a < k
      rcases (i2 k).1 hk with ⟨x, hx, rfl⟩ | ⟨y, hy, rfl⟩
      · exact ha'.1 x hx
      · rcases List.mem_cons.1 hy with rfl | hy
        · exact h1
        · have := hb'.1 y hy; omega
    · rw [List.mem_cons, i2]
      show k = key a ∨ _ ↔ _
      simp only [List.mem_cons, exists_eq_or_imp, or_assoc]
      simp only [eq_comm (a := k)]
  · intro a r b t h1 ih ha hb
    have ha' := List.pairwise_cons.1 ha
    have hb' := List.pairwise_cons.1 hb
    obtain ⟨i1, i2⟩ := ih ha hb'.2
    rw [evs_gt h1, List.map_cons, List.pairwise_cons]
    refine ⟨⟨fun k hk => ?_, i1⟩, fun k => ?_⟩
    · show key b < k
      rcases (i2 k).1 hk with ⟨x, hx, rfl⟩ | ⟨y, hy, rfl⟩
      · rcases List.mem_cons.1 hx with rfl | hx
        · exact h1
        · have := ha'.1 x hx; omega
      · exact hb'.1 y hy
    · rw [List.mem_cons, i2]
      show k = key b ∨ _ ↔ _
      simp only [List.mem_cons, exists_eq_or_imp]
      simp only [eq_comm (a := k)]
      constructor
      · rintro (h | (h | h) | h)
        · exact .inr (.inl h)
        · exact .inl (.inl h)
        · exact .inl (.inr h)
        · exact .inr (.inr h)
      · rintro ((h | h) | h | h)
        · exact .inr (.inl (.inl h))
        · exact .inr (.inl (.inr h))
        · exact .inl h
        · exact .inr (.inr h)
  · intro a r b t h1 ih ha hb
    have ha' := List.pairwise_cons.1 ha
    have hb' := List.pairwise_cons.1 hb
    obtain ⟨i1, i2⟩ := ih ha'.2 hb'.2
    rw [evs_eq h1, List.map_cons, List.pairwise_cons]
    refine ⟨⟨fun k hk => ?_, i1⟩, fun k => ?_⟩
    · show key a < k
      rcases (i2 k).1 hk with ⟨x, hx, rfl⟩ | ⟨y, hy, rfl⟩
      · exact ha'.1 x hx
      · have := hb'.1 y hy; omega
    · rw [List.mem_cons, i2]
      show k = key a ∨ _ ↔ _
      simp only [List.mem_cons, exists_eq_or_imp, ← h1]
      simp only [eq_comm (a := k)]
      constructor
      · rintro (h | h | h)
        · exact .inl (.inl h)
        · exact .inl (.inr h)
        · exact .inr (.inr h)
      · rintro ((h | h) | h | h)
        · exact .inl h
        · exact .inr (.inl h)
        · exact .inl h
        · exact .inr (.inr h)
end

/-- Ascending lists with the same members are one. -/
theorem asc_ext : ∀ a b : List Int, a.Pairwise (· < ·) → b.Pairwise (· < ·) → (∀ x, x ∈ a ↔ x ∈ b) → a = b
  | [], [], _, _, _ => rfl
  | [], y :: t, _, _, h => by have := (h y).2 (by simp); cases this
  | x :: r, [], _, _, h => by have := (h x).1 (by simp); cases this
  | x :: r, y :: t, ha, hb, h => by
    rw [List.pairwise_cons] at ha hb
    have e : x = y := by
      rcases List.mem_cons.1 ((h x).1 (by simp)) with e | e
      · exact e
      · rcases List.mem_cons.1 ((h y).2 (by simp)) with e2 | e2
        · exact e2.symm
        · have := hb.1 x e; have := ha.1 y e2; omega
    subst e
    congr 1
    refine asc_ext r t ha.2 hb.2 fun z => ⟨fun hz => ?_, fun hz => ?_⟩
    · rcases List.mem_cons.1 ((h z).1 (by simp [hz])) with e | e
      · have := ha.1 z hz; omega
      · exact e
    · rcases List.mem_cons.1 ((h z).2 (by simp [hz])) with e | e
      · have := hb.1 z hz; omega
      · exact e

def unionP (x y : List Int) : List Int := (evs id x y).map (evKey id)
theorem ascK_id {l : List Int} : AscK id l ↔ l.Pairwise (· < ·) := Iff.rfl
theorem unionP_asc {x y : List Int} (hx : x.Pairwise (· < ·)) (hy : y.Pairwise (· < ·)) : (unionP x y).Pairwise (· < ·) := (evs_asc x y hx hy).1
theorem unionP_mem {x y : List Int} (hx : x.Pairwise (· < ·)) (hy : y.Pairwise (· < ·)) (k : Int) : k ∈ unionP x y ↔ k ∈ x ∨ k ∈ y := by
  unfold unionP; refine ((evs_asc (key := id) x y hx hy).2 k).trans ?_; simp
theorem unionP_len (x y : List Int) : (unionP x y).length ≤ x.length + y.length := by rw [unionP, List.length_map]; exact evs_len x y
/-- The reference's insertion and union. -/
def withL (n : Int) : List Int → Bool → List Int → List Int
  | out, done, [] => if done then out else out ++ [n]
  | out, done, x :: r => withL n ((if done = false ∧ n ≤ x then out ++ [n] else out) ++ (if x ≠ n then [x] else [])) (done || decide (n ≤ x)) r
def withP (l : List Int) (n : Int) : List Int := withL n [] false l
theorem withL_out (n : Int) : ∀ (l : List Int) (out : List Int) (done : Bool), withL n out done l = out ++ withL n [] done l
  | [], out, done => by cases done <;> simp [withL]
  | x :: r, out, done => by
    unfold withL
    rw [withL_out n r, withL_out n r (_ ++ _)]
    split <;> simp
theorem withL_done (n : Int) : ∀ (l : List Int), (∀ x, x ∈ l → n < x) → withL n [] true l = l
  | [], _ => rfl
  | x :: r, h => by
    have h1 := h x (by simp)
    unfold withL
    rw [withL_out, if_neg (by simp), if_pos (by omega)]
    simp only [Bool.true_or]
    rw [withL_done n r fun y hy => h y (by simp [hy])]
    rfl
/-- Into an ascending list. -/
theorem withP_cons (n x : Int) (r : List Int) (h : (x :: r).Pairwise (· < ·)) : withP (x :: r) n = if n < x then n :: x :: r else if n = x then x :: r else x :: withP r n := by
  rw [List.pairwise_cons] at h
  unfold withP
  by_cases h1 : n < x
  · rw [if_pos h1]
    unfold withL
    rw [withL_out, if_pos ⟨rfl, by omega⟩, if_pos (by omega)]
    simp only [Bool.false_or, decide_eq_true (show n ≤ x by omega)]
    rw [withL_done n r fun y hy => by have := h.1 y hy; omega]
    rfl
  · by_cases h2 : n = x
    · subst h2
      rw [if_neg h1, if_pos rfl]
      unfold withL
      rw [withL_out, if_pos ⟨rfl, by omega⟩, if_neg (by simp)]
      simp only [Bool.false_or, decide_eq_true (show n ≤ n by omega)]
      rw [withL_done n r h.1]
      rfl
    · rw [if_neg h1, if_neg h2]
      conv => lhs; unfold withL
      rw [withL_out, if_neg (by rintro ⟨_, h3⟩; omega), if_pos (by omega)]
      simp only [Bool.false_or, decide_eq_false (show ¬ n ≤ x by omega)]
      rfl
theorem withP_mem : ∀ (l : List Int) (n : Int), l.Pairwise (· < ·) → ∀ k, k ∈ withP l n ↔ k = n ∨ k ∈ l
  | [], n, _, k => by simp [withP, withL]
  | x :: r, n, h, k => by
    rw [withP_cons n x r h]
    have ih := withP_mem r n (List.pairwise_cons.1 h).2 k
    split
    · simp
    · split
      · rename_i e; subst e; simp
      · rw [List.mem_cons, ih, List.mem_cons]
        constructor
        · rintro (h | h | h)
          · exact .inr (.inl h)
          · exact .inl h
          · exact .inr (.inr h)
        · rintro (h | h | h)
          · exact .inr (.inl h)
          · exact .inl h
          · exact .inr (.inr h)
theorem withP_asc : ∀ (l : List Int) (n : Int), l.Pairwise (· < ·) → (withP l n).Pairwise (· < ·)
  | [], n, _ => by simp [withP, withL]
  | x :: r, n, h => by
    rw [withP_cons n x r h]
    have h' := List.pairwise_cons.1 h
    split
    · rw [List.pairwise_cons]
      exact ⟨fun y hy => by
        rcases List.mem_cons.1 hy with rfl | hy
        · assumption
        · have := h'.1 y hy; omega, h⟩
    · split
      · exact h
      · rw [List.pairwise_cons]
        refine ⟨fun y hy => ?_, withP_asc r n h'.2⟩
        rcases (withP_mem r n h'.2 y).1 hy with rfl | hy
        · omega
        · exact h'.1 y hy
theorem withP_len (l : List Int) (n : Int) : (withP l n).length ≤ l.length + 1 := by
  have key : ∀ (l out : List Int) (done : Bool), (withL n out done l).length ≤ out.length + l.length + (if done then 0 else 1) := by
    intro l
    induction l with
    | nil => intro out done; cases done <;> simp [withL]
    | cons x r ih =>
      intro out done
      unfold withL
      have := ih ((if done = false ∧ n ≤ x then out ++ [n] else out) ++ (if x ≠ n then [x] else [])) (done || decide (n ≤ x))
      refine Nat.le_trans this ?_
      cases done
      · by_cases h : n ≤ x
        · by_cases h2 : x = n <;> simp [h, h2] <;> omega
        · by_cases h2 : x = n <;> simp [h, h2] <;> omega
      · by_cases h2 : x = n <;> simp [h2] <;> omega
  have := key l [] false
  simpa [withP] using this
def rUnion (a b : List Int) : List Int := b.foldl withP a
theorem rUnion_spec : ∀ (b a : List Int), a.Pairwise (· < ·) → (rUnion a b).Pairwise (· < ·) ∧ ∀ k, k ∈ rUnion a b ↔ k ∈ a ∨ k ∈ b
  | [], a, h => ⟨h, fun k => by simp [rUnion]⟩
  | n :: r, a, h => by
    obtain ⟨h1, h2⟩ := rUnion_spec r (withP a n) (withP_asc a n h)
    refine ⟨h1, fun k => ?_⟩
    show k ∈ rUnion (withP a n) r ↔ _
    rw [h2, withP_mem a n h, List.mem_cons]
    constructor
    · rintro ((h | h) | h)
      · exact .inr (.inl h)
      · exact .inl h
      · exact .inr (.inr h)
    · rintro (h | h | h)
      · exact .inl (.inr h)
      · exact .inl (.inl h)
      · exact .inr h
theorem rUnion_len : ∀ (b a : List Int), (rUnion a b).length ≤ a.length + b.length
  | [], a => by simp [rUnion]
  | n :: r, a => by
    have h1 := rUnion_len r (withP a n)
    have h2 := withP_len a n
    show (rUnion (withP a n) r).length ≤ _
    simp; omega
theorem rUnion_eq {a b : List Int} (ha : a.Pairwise (· < ·)) (hb : b.Pairwise (· < ·)) : rUnion a b = unionP a b :=
  asc_ext _ _ (rUnion_spec b a ha).1 (unionP_asc ha hb) fun k => by rw [(rUnion_spec b a ha).2, unionP_mem ha hb]

/-- The union of two lists of postings. -/
def orEv (e : Option Post × Option Post) : Post := match e with
  | (some x, some y) => ⟨x.doc, unionP x.places y.places⟩
  | (some x, none) => x
  | (none, some y) => y
  | (none, none) => ⟨0, []⟩
def orP (a b : List Post) : List Post := (evs Post.doc a b).map orEv
def rOf (l : List Post) (d : Int) : List Int := match l with
  | [] => []
  | p :: r => if p.doc = d then p.places else rOf r d
def rOr (a b : List Post) : List Post := (rUnion (a.map (·.doc)) (b.map (·.doc))).map fun d => ⟨d, rUnion (rOf a d) (rOf b d)⟩
theorem rOf_mem : ∀ {l : List Post} {p : Post}, AscK Post.doc l → p ∈ l → rOf l p.doc = p.places
  | q :: r, p, h, hp => by
    have h' := List.pairwise_cons.1 h
    unfold rOf
    rcases List.mem_cons.1 hp with rfl | hp
    · rw [if_pos rfl]
    · rw [if_neg (by have := h'.1 p hp; omega)]
      exact rOf_mem h'.2 hp
theorem rOf_none : ∀ {l : List Post} {d : Int}, (∀ p, p ∈ l → p.doc ≠ d) → rOf l d = []
  | [], d, h => rfl
  | q :: r, d, h => by
    unfold rOf
    rw [if_neg (h q (by simp))]
    exact rOf_none fun p hp => h p (by simp [hp])
/-- Postings in order. -/
structure Fine (l : List Post) : Prop where
  docs : AscK Post.doc l
  rows : ∀ p, p ∈ l → p.places.Pairwise (· < ·)
theorem fine_of_right {l : List Post} (h : postRight l = true) : Fine l := by
  have := postRight_iff.1 h
  refine ⟨?_, fun p hp => risesP_asc _ _ (this.1 p hp).2⟩
  have h2 := risesP_asc _ _ this.2
  rw [List.pairwise_map] at h2
  exact h2
theorem Fine.nil_ : Fine [] := ⟨List.Pairwise.nil, fun p hp => by cases hp⟩
theorem Fine.ints {l : List Post} (h : Fine l) : (l.map (·.doc)).Pairwise (· < ·) := by rw [List.pairwise_map]; exact h.docs
theorem orEv_doc {a b : List Post} {e : Option Post × Option Post} (h : EvOk Post.doc a b e) : (orEv e).doc = evKey Post.doc e := by
  obtain ⟨x, y⟩ := e
  cases x <;> cases y <;> rfl
theorem orP_docs {a b : List Post} (ha : Fine a) (hb : Fine b) : (orP a b).map (·.doc) = unionP (a.map (·.doc)) (b.map (·.doc)) := by
  unfold orP unionP
  rw [show (a.map (·.doc)) = a.map Post.doc from rfl, show (b.map (·.doc)) = b.map Post.doc from rfl, evs_map, List.map_map, List.map_map]
  refine List.map_congr_left fun e he => ?_
  have := evs_ok a b ha.docs hb.docs e he
  obtain ⟨x, y⟩ := e
  cases x <;> cases y <;> rfl
theorem rOr_eq {a b : List Post} (ha : Fine a) (hb : Fine b) : rOr a b = orP a b := by
  unfold rOr
  rw [rUnion_eq ha.ints hb.ints, ← orP_docs ha hb]
  unfold orP
  rw [List.map_map, List.map_map]
  refine List.map_congr_left fun e he => ?_
  have hk := evs_ok a b ha.docs hb.docs e he
  obtain ⟨x, y⟩ := e
  cases x with
  | none => cases y with
    | none => exact hk.elim
    | some y =>
      show Post.mk y.doc (rUnion (rOf a y.doc) (rOf b y.doc)) = y
      rw [rOf_none hk.2, rOf_mem hb.docs hk.1, rUnion_eq List.Pairwise.nil (hb.rows y hk.1)]
      have : unionP [] y.places = y.places := asc_ext _ _ (unionP_asc List.Pairwise.nil (hb.rows y hk.1)) (hb.rows y hk.1) fun k => by rw [unionP_mem List.Pairwise.nil (hb.rows y hk.1)]; simp
      rw [this]
  | some x => cases y with
    | none =>
      show Post.mk x.doc (rUnion (rOf a x.doc) (rOf b x.doc)) = x
      rw [rOf_none hk.2, rOf_mem ha.docs hk.1]; rfl
    | some y =>
      show Post.mk x.doc (rUnion (rOf a x.doc) (rOf b x.doc)) = ⟨x.doc, unionP x.places y.places⟩
      have h1 := hk.2.2
      have h1' : x.doc = y.doc := h1
      rw [rOf_mem ha.docs hk.1, h1', rOf_mem hb.docs hk.2.1, rUnion_eq (ha.rows x hk.1) (hb.rows y hk.2.1)]
theorem orP_fine {a b : List Post} (ha : Fine a) (hb : Fine b) : Fine (orP a b) := by
  refine ⟨?_, fun p hp => ?_⟩
  · have := orP_docs ha hb
    have h2 := unionP_asc ha.ints hb.ints
    rw [← this, List.pairwise_map] at h2
    exact h2
  · obtain ⟨e, he, rfl⟩ := List.mem_map.1 hp
    have hk := evs_ok a b ha.docs hb.docs e he
    obtain ⟨x, y⟩ := e
    cases x with
    | none => cases y with
      | none => exact hk.elim
      | some y => exact hb.rows y hk.1
    | some x => cases y with
      | none => exact ha.rows x hk.1
      | some y => exact unionP_asc (ha.rows x hk.1) (hb.rows y hk.2.1)
/-- Which positions the union holds. -/
theorem orP_mem {a b : List Post} (ha : Fine a) (hb : Fine b) (d k : Int) : (∃ p, p ∈ orP a b ∧ p.doc = d ∧ k ∈ p.places) ↔ (∃ p, p ∈ a ∧ p.doc = d ∧ k ∈ p.places) ∨ ∃ p, p ∈ b ∧ p.doc = d ∧ k ∈ p.places := by
  constructor
  · rintro ⟨p, hp, rfl, hk⟩
    obtain ⟨e, he, rfl⟩ := List.mem_map.1 hp
    have ho := evs_ok a b ha.docs hb.docs e he
    obtain ⟨x, y⟩ := e
    cases x with
    | none => cases y with
      | none => exact ho.elim
      | some y => exact .inr ⟨y, ho.1, rfl, hk⟩
    | some x => cases y with
      | none => exact .inl ⟨x, ho.1, rfl, hk⟩
      | some y =>
        rcases (unionP_mem (ha.rows x ho.1) (hb.rows y ho.2.1) k).1 hk with h | h
        · exact .inl ⟨x, ho.1, rfl, h⟩
        · exact .inr ⟨y, ho.2.1, ho.2.2.symm, h⟩
  · intro h
    have hd : d ∈ (orP a b).map (·.doc) := by
      rw [orP_docs ha hb, unionP_mem ha.ints hb.ints]
      rcases h with ⟨p, hp, rfl, _⟩ | ⟨p, hp, rfl, _⟩
      · exact .inl (List.mem_map.2 ⟨p, hp, rfl⟩)
      · exact .inr (List.mem_map.2 ⟨p, hp, rfl⟩)
    obtain ⟨q, hq, hqd⟩ := List.mem_map.1 hd
    refine ⟨q, hq, hqd, ?_⟩
    obtain ⟨e, he, rfl⟩ := List.mem_map.1 hq
    have ho := evs_ok a b ha.docs hb.docs e he
    have same : ∀ {l : List Post}, Fine l → ∀ {p q : Post}, p ∈ l → q ∈ l → p.doc = q.doc → p = q := by
      intro l hl p q hp hq e
      have h1 := hl.docs
      rcases List.getElem_of_mem hp with ⟨i, hi, rfl⟩
      rcases List.getElem_of_mem hq with ⟨j, hj, rfl⟩
      have h2 := List.pairwise_iff_getElem.1 h1
      rcases Nat.lt_trichotomy i j with h3 | h3 | h3
      · have := h2 i j hi hj h3; omega
      · subst h3; rfl
      · have := h2 j i hj hi h3; omega
    obtain ⟨x, y⟩ := e
    cases x with
    | none => cases y with
      | none => exact ho.elim
      | some y =>
        rcases h with ⟨p, hp, e, hk⟩ | ⟨p, hp, e, hk⟩
        · exact absurd (e.trans hqd.symm) (ho.2 p hp)
        · have := same hb hp ho.1 (e.trans hqd.symm); subst this; exact hk
    | some x => cases y with
      | none =>
        rcases h with ⟨p, hp, e, hk⟩ | ⟨p, hp, e, hk⟩
        · have := same ha hp ho.1 (e.trans hqd.symm); subst this; exact hk
        · exact absurd (e.trans hqd.symm) (ho.2 p hp)
      | some y =>
        show k ∈ unionP x.places y.places
        rw [unionP_mem (ha.rows x ho.1) (hb.rows y ho.2.1)]
        rcases h with ⟨p, hp, e, hk⟩ | ⟨p, hp, e, hk⟩
        · have := same ha hp ho.1 (e.trans hqd.symm); subst this; exact .inl hk
        · have := same hb hp ho.2.1 ((e.trans hqd.symm).trans ho.2.2); subst this; exact .inr hk
theorem orP_len (a b : List Post) : (orP a b).length ≤ a.length + b.length := by rw [orP, List.length_map]; exact evs_len a b
end Go.Proofs.YtfinpehbpcckaaaGreatDoor
end
section
namespace Go.Proofs.YtfinpehbpcckaaaGreatDoor
open Go.RowKit
set_option linter.unusedVariables false

def Callable (f : FuncId) : Prop := ∀ (args : Array Value) (w : World), (callFunc f args).run Tryz.prog w = .ok (.enter f args) w
theorem callable_of {f : FuncId} {fn : Func} (hf : Tryz.prog.funcs[f]? = some fn) (hn : (fn.name == "runtime.NumGoroutine") = false) (hb : fn.body.isNone = false) : Callable f := fun args w => by
  simp only [callFunc, Sem.run_bind, run_program, Result.andThen_ok, hf, hn, hb, if_false, Bool.false_eq_true, Sem.run_pure]
/-- A call of a function value with two arguments. -/
theorem wpList_callv2 {ops : Array Oper} {rest : List Oper} {o : Oper} {a : Act} {w : World} {Q : Exit → Act → World → Prop} {R : World → Prop} {fk : FuncId} {ck : Array Value} {v u : Value} (hgd : o.guard = none) (f x y : Operand) (t t2 : TypeId)
    (ho : o.op = .call { callee := .value f, args := #[x, y], argTypes := #[t, t2] }) (hf : a.eval f = .func (.func fk) #[] ck) (hx : a.eval x = v) (hy : a.eval y = u) (hcall : Callable fk)
    (h : Calls Tryz.prog fk (#[v, u] ++ ck) w fun e w' => (∃ r, e = .returned r) ∧ R w') (hK : ∀ r w', R w' → wpList Tryz.prog ops Q rest (a.put o.dst r) w') : wpList Tryz.prog ops Q (o :: rest) a w := by
  refine wpList_plain hgd fun next hnext => ?_
  have hr : (execOp a.eval o).run Tryz.prog w = .ok (.enter fk (#[v, u] ++ ck)) w := by
    unfold execOp
    simp only [ho, resolve, hf, Deferred.ofValue, invoke, Sem.run_bind, Sem.run_pure, Result.andThen_ok, List.map_toArray, List.map_cons, List.map_nil, hx, hy]
    simpa using hcall (#[v, u] ++ ck) w
  unfold Oper.wp
  rw [hr, Oper.upon_enter]
  refine h.mono ?_
  rintro e w' ⟨⟨r, rfl⟩, hR⟩
  exact hnext _ _ (hK r w' hR)

/-- A function that takes the events of a merge in; I tells what it has made of those so far. -/
structure Sees {α : Type} (Ptr : World → Value → Option α → Prop) (E : List (Option α × Option α)) (I : List (Option α × Option α) → World → Prop) (fk : FuncId) (ck : Array Value) (B : Nat) (w0 : World) : Prop where
  keep : ∀ done e rest w x y, done ++ e :: rest = E → I done w → Ptr w x e.1 → Ptr w y e.2 → Calls Tryz.prog fk (#[x, y] ++ ck) w fun r w' => (∃ v, r = .returned v) ∧ I (done ++ [e]) w'
  call : Callable fk
  stays : ∀ done w w', I done w → Below w.heap.size w w' → I done w'
  below : ∀ done w, I done w → Below B w0 w
  base : B ≤ w0.heap.size

def cmpI (a b : Int) : Int := if a < b then -1 else if b < a then 1 else 0
theorem compare_lt (a b : Int) (w : World) (h : a < b) : Calls Tryz.prog 92 #[.int .i64 a, .int .i64 b] w fun e w' => e = .returned (.int .i64 (-1)) ∧ w' = w := by
  go_enter Tryz.func92, Tryz.ntmps92
  go_wp2
  go_ret
  exact ⟨rfl, rfl⟩
theorem compare_gt (a b : Int) (w : World) (h : b < a) : Calls Tryz.prog 92 #[.int .i64 a, .int .i64 b] w fun e w' => e = .returned (.int .i64 1) ∧ w' = w := by
  have h1 : ¬ a < b := by omega
  go_enter Tryz.func92, Tryz.ntmps92
  go_wp2
  go_ret
  exact ⟨rfl, rfl⟩
theorem compare_eq (a b : Int) (w : World) (h : a = b) : Calls Tryz.prog 92 #[.int .i64 a, .int .i64 b] w fun e w' => e = .returned (.int .i64 0) ∧ w' = w := by
  subst h
  go_enter Tryz.func92, Tryz.ntmps92
  go_wp2
  go_ret
  exact ⟨rfl, rfl⟩
theorem compare_int (a b : Int) (w : World) : Calls Tryz.prog 92 #[.int .i64 a, .int .i64 b] w fun e w' => e = .returned (.int .i64 (cmpI a b)) ∧ w' = w := by
  unfold cmpI
  by_cases h1 : a < b
  · rw [if_pos h1]; exact compare_lt a b w h1
  · rw [if_neg h1]
    by_cases h2 : b < a
    · rw [if_pos h2]; exact compare_gt a b w h2
    · rw [if_neg h2]; exact compare_eq a b w (by omega)
def slen : Value → Nat
  | .slice _ n _ => n
  | _ => 0
theorem drewBelow (w : World) (k : Nat) : Below w.heap.size w (w.drewN k) := ((Off.refl (fun _ => False) w).drewN k).below (Nat.le_refl _) (fun _ h => h.elim)

theorem Below.drewN {B : Nat} {a w : World} (h : Below B a w) (k : Nat) : Below B a (w.drewN k) := ⟨h.os, h.tape, h.output, h.size, h.block⟩
/-- A pointer to an integer of old memory, or nil. -/
def IntPtr (B : Nat) (w : World) (v : Value) : Option Int → Prop
  | none => v = .pointer none
  | some x => ∃ ad, v = .pointer (some ad) ∧ ad.block < B ∧ w.cell? ad = some (.int .i64 x) ∧ -9223372036854775808 ≤ x ∧ x ≤ 9223372036854775807
set_option maxRecDepth 100000 in
theorem cut_one {A : Option Addr} {n c : Nat} (hn : 1 ≤ n) (W : World) : (Instr.slice 26 (.slice A n c) (some (.int .i64 1)) none none).run Tryz.prog W =
    .ok (.slice (if c = 1 then A else A.map (·.add 1)) (n - 1) (c - 1)) W := by
  obtain ⟨i0, hi, hz0, hz1, hz2⟩ := info_parts int_info
  rw [run_slice_l (P := Tryz.prog) W 26 A n c Tryz.underlying26 .i64 (1 : Int) (by omega) (by omega)]
  have hs : (sizeOf (Tryz.prog.elem 26)).run Tryz.prog W = .ok 1 W := by
    rw [show Tryz.prog.elem 26 = 3 from rfl]
    simp [sizeOf, typeInfo, hi, hz1]
  rw [hs]
  simp [Result.andThen, sliced]
theorem Ints.cut1 {w : World} {B n c : Nat} {A : Option Addr} {x : Int} {l : List Int} (hi : Ints w B A n (x :: l)) (hc : n ≤ c) : Ints w B (if c = 1 then A else A.map (·.add 1)) (n - 1) l := by
  obtain ⟨rfl, hb, hr⟩ := hi
  refine ⟨by simp, fun y hy => hb y (List.mem_cons_of_mem _ hy), ?_⟩
  have := hr.cut (k := 1) (cap := c) (by simpa [iv] using hc)
  simpa [iv] using this
theorem Ints.head {w : World} {B n : Nat} {A : Option Addr} {x : Int} {l : List Int} (hi : Ints w B A n (x :: l)) : ∃ ad, A = some ad ∧ ad.block < B ∧ w.cell? ad = some (.int .i64 x) ∧ -9223372036854775808 ≤ x ∧ x ≤ 9223372036854775807 := by
  obtain ⟨ad, e, hb, hc⟩ := hi.at_ (k := 0) (by rw [hi.1]; simp)
  have hbd := hi.bounds 0
  have e0 : gi (x :: l) 0 = x := rfl
  rw [e0] at hc hbd
  exact ⟨ad, e, hb, hc, hbd⟩
theorem Ints.empty {w : World} {B : Nat} {A : Option Addr} {l : List Int} (hi : Ints w B A 0 l) : l = [] := List.eq_nil_of_length_eq_zero hi.1.symm
theorem Ints.cons {w : World} {B n : Nat} {A : Option Addr} {l : List Int} (hi : Ints w B A n l) (hn : 0 < n) : ∃ x r, l = x :: r := by
  cases l with
  | nil => have := hi.1; simp at this; omega
  | cons x r => exact ⟨x, r, rfl⟩

def BothInts (E : List (Option Int × Option Int)) (I : List (Option Int × Option Int) → World → Prop) (B : Nat) (w0 : World) (va vb : Value) (wr : World) : Prop := ∃ (A : Option Addr) (n c : Nat) (A2 : Option Addr) (m d : Nat), va = .slice A n c ∧ vb = .slice A2 m d ∧ n ≤ c ∧ c ≤ 9223372036854775807 ∧ m ≤ d ∧ d ≤ 9223372036854775807 ∧ Hid (∃ ra rb done, Ints w0 B A n ra ∧ Ints w0 B A2 m rb ∧ done ++ evs id ra rb = E ∧ I done wr)
set_option maxRecDepth 100000 in
set_option maxHeartbeats 4000000 in
theorem both_ints {E : List (Option Int × Option Int)} {I : List (Option Int × Option Int) → World → Prop} {fk : FuncId} {ck : Array Value} {B : Nat} {w0 : World} (hs : Sees (IntPtr B) E I fk ck B w0)
    (A A2 : Option Addr) (n m c d : Nat) (a b : List Int) (w : World) (ha : Ints w0 B A n a) (hb : Ints w0 B A2 m b) (hn : n ≤ c) (hc : c ≤ maxLen) (hm : m ≤ d) (hd : d ≤ maxLen) (hE : evs id a b = E) (hI : I [] w) :
    Calls Tryz.prog 115 #[.slice A n c, .slice A2 m d, .func (.func 92) #[] #[], .func (.func fk) #[] ck] w fun e w' => e = .returned (.tuple #[]) ∧ I E w' := by
  have HS := Lib.hid hs
  have H0 : Hid (∃ ra rb done, Ints w0 B A n ra ∧ Ints w0 B A2 m rb ∧ done ++ evs id ra rb = E ∧ I done w) := ⟨a, b, [], ha, hb, hE, hI⟩
  unfold maxLen at hc hd
  clear hs ha hb hE hI
  go_enter Tryz.func115, Tryz.ntmps115
  go_wp2
  go_loopw [0, 1] (BothInts E I B w0) (fun va vb _ => slen va + slen vb)
  case atStart => exact ⟨A, n, c, A2, m, d, rfl, rfl, hn, by omega, hm, by omega, H0.out⟩
  case round =>
    clear H0 hn hc hm hd
    obtain ⟨A, n, c, A2, m, d, rfl, rfl, hn, hc, hm, hd, H⟩ := hrel
    obtain ⟨ra, rb, done, ha, hb, hE, hI⟩ := H.out
    have HBEL := Lib.hid (HS.out.below _ _ hI)
    have HI := Lib.hid hI
    have HBW := Lib.hid (Nat.le_trans HS.out.base HBEL.out.size)
    clear H hI
    by_cases hn0 : n = 0
    · subst hn0
      obtain rfl := ha.empty
      have HA := Lib.hid ha
      by_cases hm0 : m = 0
      · subst hm0
        obtain rfl := hb.empty
        rw [evs_nil, List.append_nil] at hE
        subst hE
        clear ha hb
        go_wp2
        go_end0
        exact ⟨rfl, HI.out⟩
      · obtain ⟨y, tt, rfl⟩ := hb.cons (by omega)
        rw [evs_right] at hE
        have HB := Lib.hid hb
        obtain ⟨bd, rfl, hbb, hcb, hy0, hy1⟩ := HB.out.head
        have hcb := (HBEL.out.cell hbb).trans hcb
        have HY := Lib.hid (fun w' (hb : Below B wr w') => (show IntPtr B w' (.pointer (some bd)) (some y) from ⟨bd, rfl, hbb, (hb.cell hbb).trans hcb, hy0, hy1⟩))
        have hm1 : (0 : Int) < (m : Int) := by omega
        have hm3 : 0 < m := by omega
        have hm2 : ((m : Int) == 0) = false := by simpa using hm0
        clear ha hb hm0
        have HE := Lib.hid (show (done ++ [(none, some y)]) ++ evs id ([]) (tt) = E by rw [← hE]; simp)
        have HC := Lib.hid (fun w' (hb : Below wr.heap.size wr w') => HS.out.keep done (none, some y) (evs id ([]) (tt)) w' (.pointer none) (.pointer (some bd)) hE (HS.out.stays _ _ _ HI.out hb) rfl (HY.out _ (hb.mono HBW.out)))
        have HA1 := HA
        have HB1 := Lib.hid (HB.out.cut1 hm)
        obtain ⟨B5, hB5⟩ : ∃ B5, (if d = 1 then some bd else (some bd).map (·.add 1)) = B5 := ⟨_, rfl⟩
        have hsb := fun W => cut_one (A := some bd) (c := d) (show 1 ≤ m by omega) W
        simp only [hB5] at hsb
        rw [hB5] at HB1
        clear hE hB5
        go_wp2
        go_quiet (fail)
        go_wp2_with (refine wpList_callv2 (fk := fk) (ck := ck) (v := .pointer none) (u := .pointer (some bd)) rfl (.tmp 47) (.tmp 48) (.tmp 49) 138 138 rfl rfl rfl rfl HS.out.call (HC.out _ (by repeat (first | exact Below.refl _ _ | refine Below.drewN ?_ _))) ?_; rintro r w2 hI2; have HI2 := Lib.hid hI2; clear hI2)
        go_simp
        go_roundw
        case rel => exact ⟨A, 0, c, B5, m - 1, d - 1, rfl, rfl, by omega, by omega, by omega, by omega, [], tt, done ++ [(none, some y)], HA1.out, HB1.out, HE.out, HI2.out⟩
        case measure => simp [slen] <;> omega
    · obtain ⟨x, rr, rfl⟩ := ha.cons (by omega)
      have HA := Lib.hid ha
      obtain ⟨ad, rfl, hab, hca, hx0, hx1⟩ := HA.out.head
      have hca := (HBEL.out.cell hab).trans hca
      have HX := Lib.hid (fun w' (hb : Below B wr w') => (show IntPtr B w' (.pointer (some ad)) (some x) from ⟨ad, rfl, hab, (hb.cell hab).trans hca, hx0, hx1⟩))
      have hn1 : (0 : Int) < (n : Int) := by omega
      have hn3 : 0 < n := by omega
      have hn2 : ((n : Int) == 0) = false := by simpa using hn0
      by_cases hm0 : m = 0
      · subst hm0
        obtain rfl := hb.empty
        have HB := Lib.hid hb
        rw [evs_left] at hE
        clear ha hb hn0
        have HE := Lib.hid (show (done ++ [(some x, none)]) ++ evs id (rr) ([]) = E by rw [← hE]; simp)
        have HC := Lib.hid (fun w' (hb : Below wr.heap.size wr w') => HS.out.keep done (some x, none) (evs id (rr) ([])) w' (.pointer (some ad)) (.pointer none) hE (HS.out.stays _ _ _ HI.out hb) (HX.out _ (hb.mono HBW.out)) rfl)
        have HA1 := Lib.hid (HA.out.cut1 hn)
        obtain ⟨A5, hA5⟩ : ∃ A5, (if c = 1 then some ad else (some ad).map (·.add 1)) = A5 := ⟨_, rfl⟩
        have hsa := fun W => cut_one (A := some ad) (c := c) (show 1 ≤ n by omega) W
        simp only [hA5] at hsa
        rw [hA5] at HA1
        have HB1 := HB
        clear hE hA5
        go_wp2
        go_quiet (fail)
        go_wp2_with (refine wpList_callv2 (fk := fk) (ck := ck) (v := .pointer (some ad)) (u := .pointer none) rfl (.tmp 47) (.tmp 48) (.tmp 49) 138 138 rfl rfl rfl rfl HS.out.call (HC.out _ (by repeat (first | exact Below.refl _ _ | refine Below.drewN ?_ _))) ?_; rintro r w2 hI2; have HI2 := Lib.hid hI2; clear hI2)
        go_simp
        go_roundw
        case rel => exact ⟨A5, n - 1, c - 1, A2, 0, d, rfl, rfl, by omega, by omega, by omega, by omega, rr, [], done ++ [(some x, none)], HA1.out, HB1.out, HE.out, HI2.out⟩
        case measure => simp [slen] <;> omega
      · obtain ⟨y, tt, rfl⟩ := hb.cons (by omega)
        have HB := Lib.hid hb
        obtain ⟨bd, rfl, hbb, hcb, hy0, hy1⟩ := HB.out.head
        have hcb := (HBEL.out.cell hbb).trans hcb
        have HY := Lib.hid (fun w' (hb : Below B wr w') => (show IntPtr B w' (.pointer (some bd)) (some y) from ⟨bd, rfl, hbb, (hb.cell hbb).trans hcb, hy0, hy1⟩))
        have hm1 : (0 : Int) < (m : Int) := by omega
        have hm3 : 0 < m := by omega
        have hm2 : ((m : Int) == 0) = false := by simpa using hm0
        clear ha hb hn0 hm0
        rcases Int.lt_trichotomy (x) (y) with hlt | hlt | hlt
        · rw [evs_lt (by exact hlt)] at hE
          have HLT := Lib.hid hlt
          clear hlt
          have HE := Lib.hid (show (done ++ [(some x, none)]) ++ evs id (rr) (y :: tt) = E by rw [← hE]; simp)
          have HC := Lib.hid (fun w' (hb : Below wr.heap.size wr w') => HS.out.keep done (some x, none) (evs id (rr) (y :: tt)) w' (.pointer (some ad)) (.pointer none) hE (HS.out.stays _ _ _ HI.out hb) (HX.out _ (hb.mono HBW.out)) rfl)
          have HA1 := Lib.hid (HA.out.cut1 hn)
          obtain ⟨A5, hA5⟩ : ∃ A5, (if c = 1 then some ad else (some ad).map (·.add 1)) = A5 := ⟨_, rfl⟩
          have hsa := fun W => cut_one (A := some ad) (c := c) (show 1 ≤ n by omega) W
          simp only [hA5] at hsa
          rw [hA5] at HA1
          have HB1 := HB
          clear hE hA5
          go_wp2
          go_quiet ((go_at_call 92; exact Calls.quiet_of_same (compare_lt _ _ _ HLT.out)))
          go_wp2
          go_quiet (fail)
          go_wp2_with (refine wpList_callv2 (fk := fk) (ck := ck) (v := .pointer (some ad)) (u := .pointer none) rfl (.tmp 47) (.tmp 48) (.tmp 49) 138 138 rfl rfl rfl rfl HS.out.call (HC.out _ (by repeat (first | exact Below.refl _ _ | refine Below.drewN ?_ _))) ?_; rintro r w2 hI2; have HI2 := Lib.hid hI2; clear hI2)
          go_simp
          go_roundw
          case rel => exact ⟨A5, n - 1, c - 1, some bd, m, d, rfl, rfl, by omega, by omega, by omega, by omega, rr, y :: tt, done ++ [(some x, none)], HA1.out, HB1.out, HE.out, HI2.out⟩
          case measure => simp [slen] <;> omega
        · rw [evs_eq (by exact hlt)] at hE
          have HLT := Lib.hid hlt
          clear hlt
          have HE := Lib.hid (show (done ++ [(some x, some y)]) ++ evs id (rr) (tt) = E by rw [← hE]; simp)
          have HC := Lib.hid (fun w' (hb : Below wr.heap.size wr w') => HS.out.keep done (some x, some y) (evs id (rr) (tt)) w' (.pointer (some ad)) (.pointer (some bd)) hE (HS.out.stays _ _ _ HI.out hb) (HX.out _ (hb.mono HBW.out)) (HY.out _ (hb.mono HBW.out)))
          have HA1 := Lib.hid (HA.out.cut1 hn)
          obtain ⟨A5, hA5⟩ : ∃ A5, (if c = 1 then some ad else (some ad).map (·.add 1)) = A5 := ⟨_, rfl⟩
          have hsa := fun W => cut_one (A := some ad) (c := c) (show 1 ≤ n by omega) W
          simp only [hA5] at hsa
          rw [hA5] at HA1
          have HB1 := Lib.hid (HB.out.cut1 hm)
          obtain ⟨B5, hB5⟩ : ∃ B5, (if d = 1 then some bd else (some bd).map (·.add 1)) = B5 := ⟨_, rfl⟩
          have hsb := fun W => cut_one (A := some bd) (c := d) (show 1 ≤ m by omega) W
          simp only [hB5] at hsb
          rw [hB5] at HB1
          clear hE hA5 hB5
          go_wp2
          go_quiet ((go_at_call 92; exact Calls.quiet_of_same (compare_eq _ _ _ HLT.out)))
          go_wp2
          go_quiet (fail)
          go_wp2
          go_quiet (fail)
          go_wp2_with (refine wpList_callv2 (fk := fk) (ck := ck) (v := .pointer (some ad)) (u := .pointer (some bd)) rfl (.tmp 47) (.tmp 48) (.tmp 49) 138 138 rfl rfl rfl rfl HS.out.call (HC.out _ (by repeat (first | exact Below.refl _ _ | refine Below.drewN ?_ _))) ?_; rintro r w2 hI2; have HI2 := Lib.hid hI2; clear hI2)
          go_simp
          go_roundw
          case rel => exact ⟨A5, n - 1, c - 1, B5, m - 1, d - 1, rfl, rfl, by omega, by omega, by omega, by omega, rr, tt, done ++ [(some x, some y)], HA1.out, HB1.out, HE.out, HI2.out⟩
          case measure => simp [slen] <;> omega
        · rw [evs_gt (by exact hlt)] at hE
          have HLT := Lib.hid hlt
          clear hlt
          have HE := Lib.hid (show (done ++ [(none, some y)]) ++ evs id (x :: rr) (tt) = E by rw [← hE]; simp)
          have HC := Lib.hid (fun w' (hb : Below wr.heap.size wr w') => HS.out.keep done (none, some y) (evs id (x :: rr) (tt)) w' (.pointer none) (.pointer (some bd)) hE (HS.out.stays _ _ _ HI.out hb) rfl (HY.out _ (hb.mono HBW.out)))
          have HA1 := HA
          have HB1 := Lib.hid (HB.out.cut1 hm)
          obtain ⟨B5, hB5⟩ : ∃ B5, (if d = 1 then some bd else (some bd).map (·.add 1)) = B5 := ⟨_, rfl⟩
          have hsb := fun W => cut_one (A := some bd) (c := d) (show 1 ≤ m by omega) W
          simp only [hB5] at hsb
          rw [hB5] at HB1
          clear hE hB5
          go_wp2
          go_quiet ((go_at_call 92; exact Calls.quiet_of_same (compare_gt _ _ _ HLT.out)))
          go_wp2
          go_quiet (fail)
          go_wp2_with (refine wpList_callv2 (fk := fk) (ck := ck) (v := .pointer none) (u := .pointer (some bd)) rfl (.tmp 47) (.tmp 48) (.tmp 49) 138 138 rfl rfl rfl rfl HS.out.call (HC.out _ (by repeat (first | exact Below.refl _ _ | refine Below.drewN ?_ _))) ?_; rintro r w2 hI2; have HI2 := Lib.hid hI2; clear hI2)
          go_simp
          go_roundw
          case rel => exact ⟨some ad, n, c, B5, m - 1, d - 1, rfl, rfl, by omega, by omega, by omega, by omega, x :: rr, tt, done ++ [(none, some y)], HA1.out, HB1.out, HE.out, HI2.out⟩
          case measure => simp [slen] <;> omega
end Go.Proofs.YtfinpehbpcckaaaGreatDoor
end
section
namespace Go.Proofs.YtfinpehbpcckaaaGreatDoor
open Go.RowKit
set_option linter.unusedVariables false

def fLo (k : Nat) : Int := ([65, 192, 216, 256, 306, 313, 330, 376, 377, 902, 904, 908, 910, 913, 931, 1024, 1040] : List Int).getD k 0
def fHi (k : Nat) : Int := ([90, 214, 222, 303, 311, 328, 375, 376, 382, 902, 906, 908, 911, 929, 939, 1039, 1071] : List Int).getD k 0
def fSt (k : Nat) : Int := ([1, 1, 1, 2, 2, 2, 2, 1, 2, 1, 1, 1, 1, 1, 1, 1, 1] : List Int).getD k 0
def fMo (k : Nat) : Int := ([32, 32, 32, 1, 1, 1, 1, -121, 1, 38, 37, 64, 63, 32, 32, 80, 32] : List Int).getD k 0
theorem fsorted : ∀ k, k < 17 → fLo k ≤ fHi k ∧ 0 ≤ fLo k ∧ fHi k ≤ 262143 ∧ ∀ j, j < k → fHi j < fLo k := by decide
theorem fmono (j k : Nat) (h : j ≤ k) (hk : k < 17) : fHi j ≤ fHi k := by
  rcases Nat.lt_or_ge j k with h1 | h1
  · have h2 := fsorted k hk
    have := h2.2.2.2 j h1; omega
  · have : j = k := by omega
    subst this; omega
/-- The table at an address of old memory. -/
def fCells (w : World) (B : Nat) (ad : Addr) : Prop := ad.block < B ∧ ∀ k, k < 17 → w.cell? (ad.add (k * 4)) = some (.int .i32 (fLo k)) ∧ w.cell? ⟨(ad.add (k * 4)).block, (ad.add (k * 4)).off + 1, none⟩ = some (.int .i32 (fHi k)) ∧ w.cell? ⟨(ad.add (k * 4)).block, (ad.add (k * 4)).off + 2, none⟩ = some (.int .i32 (fSt k)) ∧ w.cell? ⟨(ad.add (k * 4)).block, (ad.add (k * 4)).off + 3, none⟩ = some (.int .i32 (fMo k))
/-- The variable holds the table. -/
def fSpans (w : World) (B : Nat) : Prop := 2 < B ∧ ∃ ad c, w.cell? ⟨2, 0, none⟩ = some (.slice (some ad) 17 c) ∧ fCells w B ad
theorem fCells.below {w w' : World} {B : Nat} {ad : Addr} (h : fCells w B ad) (hb : Below B w w') : fCells w' B ad := by
  refine ⟨h.1, fun k hk => ?_⟩
  obtain ⟨c0, c1, c2, c3⟩ := h.2 k hk
  have hbl : (ad.add (k * 4)).block < B := by rw [add_block]; exact h.1
  exact ⟨(hb.cell hbl).trans c0, (hb.cell (p := ⟨(ad.add (k * 4)).block, (ad.add (k * 4)).off + 1, none⟩) hbl).trans c1, (hb.cell (p := ⟨(ad.add (k * 4)).block, (ad.add (k * 4)).off + 2, none⟩) hbl).trans c2, (hb.cell (p := ⟨(ad.add (k * 4)).block, (ad.add (k * 4)).off + 3, none⟩) hbl).trans c3⟩
theorem fCells.more {w : World} {B B' : Nat} {ad : Addr} (h : fCells w B ad) (hB : B ≤ B') : fCells w B' ad := ⟨Nat.lt_of_lt_of_le h.1 hB, h.2⟩
theorem fSpans.below {w w' : World} {B : Nat} (h : fSpans w B) (hb : Below B w w') : fSpans w' B := by
  obtain ⟨h0, ad, c, h1, h2⟩ := h
  exact ⟨h0, ad, c, (hb.cell (p := ⟨2, 0, none⟩) h0).trans h1, h2.below hb⟩
theorem fSpans.more {w : World} {B B' : Nat} (h : fSpans w B) (hB : B ≤ B') : fSpans w B' := by
  obtain ⟨h0, ad, c, h1, h2⟩ := h
  exact ⟨Nat.lt_of_lt_of_le h0 hB, ad, c, h1, h2.more hB⟩

theorem fcmp_lt (lo hi st mo r : Int) (w : World) (h : hi < r) : Calls Tryz.prog 168 #[.agg #[.int .i32 lo, .int .i32 hi, .int .i32 st, .int .i32 mo], .int .i32 r] w fun e w' => e = .returned (.int .i64 (-1)) ∧ Below w.heap.size w w' := by
  go_enter Tryz.func168, Tryz.ntmps168
  go_wp2
  go_ret
  exact ⟨rfl, (Below.refl _ _).alloc (Nat.le_refl _) _⟩
theorem fcmp_gt (lo hi st mo r : Int) (w : World) (h : ¬ hi < r) (h2 : r < lo) : Calls Tryz.prog 168 #[.agg #[.int .i32 lo, .int .i32 hi, .int .i32 st, .int .i32 mo], .int .i32 r] w fun e w' => e = .returned (.int .i64 1) ∧ Below w.heap.size w w' := by
  go_enter Tryz.func168, Tryz.ntmps168
  go_wp2
  go_ret
  exact ⟨rfl, (Below.refl _ _).alloc (Nat.le_refl _) _⟩
theorem fcmp_eq (lo hi st mo r : Int) (w : World) (h : ¬ hi < r) (h2 : ¬ r < lo) : Calls Tryz.prog 168 #[.agg #[.int .i32 lo, .int .i32 hi, .int .i32 st, .int .i32 mo], .int .i32 r] w fun e w' => e = .returned (.int .i64 0) ∧ Below w.heap.size w w' := by
  go_enter Tryz.func168, Tryz.ntmps168
  go_wp2
  go_ret
  exact ⟨rfl, (Below.refl _ _).alloc (Nat.le_refl _) _⟩

/-- Where the search ends. -/
def fPost (w : World) (r : Int) (e : Ending) (w' : World) : Prop := ∃ i : Nat, i ≤ 17 ∧ (∀ k, k < i → fHi k < r) ∧ (∀ k, i ≤ k → k < 17 → r ≤ fHi k) ∧ e = .returned (.tuple #[.int .i64 (i : Int), .bool (decide (i < 17 ∧ fLo i ≤ r))]) ∧ Below w.heap.size w w'
def fRel (w : World) (r : Int) (i j : Nat) (wr : World) : Prop := (∀ k, k < i → fHi k < r) ∧ (∀ k, j ≤ k → k < 17 → r ≤ fHi k) ∧ Below w.heap.size w wr
set_option maxRecDepth 100000 in
set_option maxHeartbeats 4000000 in
theorem fsearch (ad : Addr) (c : Nat) (r : Int) (w : World) (h : fCells w w.heap.size ad) : Calls Tryz.prog 167 #[.slice (some ad) 17 c, .int .i32 r, .func (.func 168) #[] #[]] w (fPost w r) := by
  have H := Lib.hid h
  clear h
  go_enter Tryz.func167, Tryz.ntmps167
  go_wp2
  go_loopw [9, 10] (fun a b wr => ∃ i j : Nat, i ≤ j ∧ j ≤ 17 ∧ a = .int .i64 (i : Int) ∧ b = .int .i64 (j : Int) ∧ Hid (fRel w r i j wr)) (fun a b _ => (intOf b).toNat - (intOf a).toNat)
  case atStart => exact ⟨0, 17, by omega, Nat.le_refl _, rfl, rfl, fun k hk => by omega, fun k h1 h2 => by omega, Below.refl _ _⟩
  case round =>
    obtain ⟨i, j, hij, hj, rfl, rfl, HR⟩ := hrel
    have hsz := HR.out.2.2.size
    by_cases hlt : i < j
    · have hi2 : (i : Int) < (j : Int) := by omega
      have hmi : i ≤ (i + j) / 2 := by omega
      have hmj : (i + j) / 2 < j := by omega
      have hmn : (i + j) / 2 < 17 := by omega
      obtain ⟨c0, c1, c2, c3⟩ := ((H.out.below HR.out.2.2).2 ((i + j) / 2) hmn)
      have HSRT := Lib.hid (fsorted ((i + j) / 2) hmn)
      by_cases hlt2 : fHi ((i + j) / 2) < r
      · have HL := Lib.hid hlt2
        clear hlt2
        go_wp2_with fail
        refine (fcmp_lt (fLo ((i + j) / 2)) (fHi ((i + j) / 2)) (fSt ((i + j) / 2)) (fMo ((i + j) / 2)) r _ (by have := HL.out; omega)).mono ?_
        rintro e w3 ⟨rfl, hb3⟩
        have HF := Lib.hid (show fRel w r ((i + j) / 2 + 1) j w3 from ⟨fun k hk => by
          have := fmono k ((i + j) / 2) (by omega) hmn
          have := HL.out
          omega, HR.out.2.1, HR.out.2.2.trans (hb3.mono hsz)⟩)
        clear hb3
        go_wp2
        go_roundw
        case rel => exact ⟨(i + j) / 2 + 1, j, by omega, hj, int_eq (by omega), rfl, HF.out⟩
        case measure => simp [intOf] <;> omega
      · have HL := Lib.hid hlt2
        have HF : Hid (∀ w3, Below wr.heap.size wr w3 → fRel w r i ((i + j) / 2) w3) := fun w3 hb3 => ⟨HR.out.1, fun k h1 h2 => by
          have := fmono ((i + j) / 2) k h1 h2
          have := HL.out
          omega, HR.out.2.2.trans (hb3.mono hsz)⟩
        clear hlt2
        by_cases hgt : r < fLo ((i + j) / 2)
        · have HG := Lib.hid hgt
          clear hgt
          go_wp2_with fail
          refine (fcmp_gt (fLo ((i + j) / 2)) (fHi ((i + j) / 2)) (fSt ((i + j) / 2)) (fMo ((i + j) / 2)) r _ (by have := HL.out; omega) (by have := HG.out; omega)).mono ?_
          rintro e w3 ⟨rfl, hb3⟩
          have HF2 := Lib.hid (HF.out w3 hb3)
          clear hb3
          go_wp2
          go_roundw
          case rel => exact ⟨i, (i + j) / 2, hmi, by omega, rfl, int_eq (by omega), HF2.out⟩
          case measure => simp [intOf] <;> omega
        · have HG := Lib.hid hgt
          clear hgt
          go_wp2_with fail
          refine (fcmp_eq (fLo ((i + j) / 2)) (fHi ((i + j) / 2)) (fSt ((i + j) / 2)) (fMo ((i + j) / 2)) r _ (by have := HL.out; omega) (by have := HG.out; omega)).mono ?_
          rintro e w3 ⟨rfl, hb3⟩
          have HF2 := Lib.hid (HF.out w3 hb3)
          clear hb3
          go_wp2
          go_roundw
          case rel => exact ⟨i, (i + j) / 2, hmi, by omega, rfl, int_eq (by omega), HF2.out⟩
          case measure => simp [intOf] <;> omega
    · obtain rfl : i = j := by omega
      by_cases hin : i < 17
      · have hi2 : (i : Int) < 17 := by omega
        obtain ⟨c0, c1, c2, c3⟩ := ((H.out.below HR.out.2.2).2 i hin)
        have hle := HR.out.2.1 i (Nat.le_refl _) hin
        have HL := Lib.hid (show ¬ fHi i < r by omega)
        clear hle
        by_cases hgt : r < fLo i
        · have HG := Lib.hid hgt
          have HD := Lib.hid (show decide (i < 17 ∧ fLo i ≤ r) = false from decide_eq_false (by omega))
          clear hgt
          go_wp2_with fail
          refine (fcmp_gt (fLo i) (fHi i) (fSt i) (fMo i) r _ (by have := HL.out; omega) (by have := HG.out; omega)).mono ?_
          rintro e w3 ⟨rfl, hb3⟩
          have HF2 := Lib.hid (HR.out.2.2.trans (hb3.mono hsz))
          clear hb3
          go_wp2
          go_ret2
          exact ⟨i, hj, HR.out.1, HR.out.2.1, by rw [HD.out]; rfl, HF2.out⟩
        · have HG := Lib.hid hgt
          have HD := Lib.hid (show decide (i < 17 ∧ fLo i ≤ r) = true from decide_eq_true (by omega))
          clear hgt
          go_wp2_with fail
          refine (fcmp_eq (fLo i) (fHi i) (fSt i) (fMo i) r _ (by have := HL.out; omega) (by have := HG.out; omega)).mono ?_
          rintro e w3 ⟨rfl, hb3⟩
          have HF2 := Lib.hid (HR.out.2.2.trans (hb3.mono hsz))
          clear hb3
          go_wp2
          go_ret2
          exact ⟨i, hj, HR.out.1, HR.out.2.1, by rw [HD.out]; rfl, HF2.out⟩
      · have hi2 : ¬ (i : Int) < 17 := by omega
        have HD := Lib.hid (show decide (i < 17 ∧ fLo i ≤ r) = false from decide_eq_false (by omega))
        go_wp2
        go_ret2
        exact ⟨i, hj, HR.out.1, HR.out.2.1, by rw [HD.out]; rfl, HR.out.2.2⟩
end Go.Proofs.YtfinpehbpcckaaaGreatDoor
end
