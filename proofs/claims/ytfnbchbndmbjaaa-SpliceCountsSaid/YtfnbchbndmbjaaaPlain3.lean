/- The plain law of the differences: what the differ's state holds after any events; hence applying the splices gives the new list, and they are in order, not adjacent, not empty, and count what is not kept. -/
import Derived.Test.YtfnbchbndmbjaaaPlain2
namespace Go.Proofs.Ytfnbchbndmbjaaa
set_option linter.unusedVariables false

def ints (l : List Spl) : List Spi := l.map Spl.int
def sumDrop : List Spl → Nat
  | [] => 0
  | s :: r => s.drop + sumDrop r
def sumAdd : List Spl → Nat
  | [] => 0
  | s :: r => s.add.length + sumAdd r
theorem sumDrop_append (l m : List Spl) : sumDrop (l ++ m) = sumDrop l + sumDrop m := by induction l <;> simp_all [sumDrop]; omega
theorem sumAdd_append (l m : List Spl) : sumAdd (l ++ m) = sumAdd l + sumAdd m := by induction l <;> simp_all [sumAdd]; omega
def chain : List Spl → Prop
  | [] => True
  | [_] => True
  | p :: q :: r => p.at_ + p.add.length < q.at_ ∧ chain (q :: r)
theorem chain_snoc2 (l : List Spl) (s t : Spl) : chain (l ++ [s, t]) ↔ chain (l ++ [s]) ∧ s.at_ + s.add.length < t.at_ := by
  induction l with
  | nil => simp [chain]
  | cons x r ih =>
    cases r with
    | nil => simp [chain]
    | cons y r =>
      simp only [List.cons_append, chain] at ih ⊢
      rw [ih]
      exact ⟨fun ⟨a, b, c⟩ => ⟨⟨a, b⟩, c⟩, fun ⟨⟨a, b⟩, c⟩ => ⟨a, b, c⟩⟩
theorem chain_init {l : List Spl} {s : Spl} (h : chain (l ++ [s])) : chain l := by
  induction l with
  | nil => trivial
  | cons x r ih =>
    cases r with
    | nil => trivial
    | cons y r =>
      simp only [List.cons_append, chain] at h ih ⊢
      exact ⟨h.1, ih h.2⟩
theorem chain_last {l : List Spl} {s t : Spl} (h : chain (l ++ [s])) (e : t.at_ = s.at_) : chain (l ++ [t]) := by
  induction l with
  | nil => trivial
  | cons x r ih =>
    cases r with
    | nil => simp only [List.cons_append, List.nil_append, chain] at h ⊢; rw [e]; exact ⟨h.1, trivial⟩
    | cons y r =>
      simp only [List.cons_append, chain] at h ih ⊢
      exact ⟨h.1, ih h.2⟩
theorem chain_later {l : List Spl} {s t : Spl} (h : chain (l ++ [s])) (e : s.at_ ≤ t.at_) : chain (l ++ [t]) := by
  induction l with
  | nil => trivial
  | cons x r ih =>
    cases r with
    | nil => simp only [List.cons_append, List.nil_append, chain] at h ⊢; exact ⟨by omega, trivial⟩
    | cons y r =>
      simp only [List.cons_append, chain] at h ih ⊢
      exact ⟨h.1, ih h.2⟩

theorem app_append (l : List Int) (s t : List Spi) : app l (s ++ t) = (app l s).bind fun m => app m t := by
  induction s generalizing l with
  | nil => rfl
  | cons x r ih =>
    simp only [List.cons_append, app]
    cases h : app1 l x with
    | none => rfl
    | some m => exact ih m
theorem app1_mid (u v rest : List Int) (s : Spl) (h1 : s.at_ = u.length) (h2 : s.drop = v.length) : app1 (u ++ v ++ rest) s.int = some (u ++ s.add ++ rest) := by
  unfold app1
  have e1 : s.int.at_ = (u.length : Int) := by show ((s.at_ : Nat) : Int) = _; rw [h1]
  have e2 : s.int.drop = (v.length : Int) := by show ((s.drop : Nat) : Int) = _; rw [h2]
  have e3 : s.int.add = s.add := rfl
  rw [e1, e2, e3, if_neg (by simp only [List.length_append]; omega)]
  rw [show ((u.length : Int)).toNat = u.length by omega, show ((u.length : Int) + (v.length : Int)).toNat = u.length + v.length by omega]
  rw [List.append_assoc u v rest, List.take_left, ← List.drop_drop, List.drop_left, List.drop_left]

/-- No splice is open. -/
structure Closed (done : List Ev) (l : List Spl) (k : Nat) : Prop where
  app : ∀ rest, app (oldOf done ++ rest) (ints l) = some (newOf done ++ rest)
  ord : chain (l ++ [⟨k, 0, []⟩])
  full : ∀ t ∈ l, 0 < t.drop + t.add.length
  drops : sumDrop l + (kept done).length = (oldOf done).length
  adds : sumAdd l + (kept done).length = (newOf done).length
/-- The last splice is open. -/
structure Open (done : List Ev) (init : List Spl) (s : Spl) : Prop where
  app : ∃ u v, newOf done = u ++ s.add ∧ s.at_ = u.length ∧ s.drop = v.length ∧ ∀ rest, app (oldOf done ++ rest) (ints init) = some (u ++ v ++ rest)
  ord : chain (init ++ [s])
  full : ∀ t ∈ init, 0 < t.drop + t.add.length
  drops : sumDrop init + s.drop + (kept done).length = (oldOf done).length
  adds : sumAdd init + s.add.length + (kept done).length = (newOf done).length
theorem Closed.opens {done : List Ev} {l : List Spl} {k : Nat} (h : Closed done l k) (hk : k = (newOf done).length) : Open done l ⟨k, 0, []⟩ :=
  ⟨⟨newOf done, [], by simp, hk, rfl, fun rest => by simpa using h.app rest⟩, h.ord, h.full, by simpa using h.drops, by simpa using h.adds⟩
theorem Closed.keeps {done : List Ev} {l : List Spl} {k : Nat} (h : Closed done l k) (n : Int) : Closed (done ++ [.keep n]) l (k + 1) := by
  refine ⟨fun rest => ?_, chain_later h.ord (by simp), h.full, ?_, ?_⟩
  · have := h.app (n :: rest)
    simpa [oldOf_append, newOf_append, oldOf, newOf] using this
  · have := h.drops; simp [oldOf_append, kept_append, oldOf, kept]; omega
  · have := h.adds; simp [newOf_append, kept_append, newOf, kept]; omega
theorem Open.closes {done : List Ev} {init : List Spl} {s : Spl} (h : Open done init s) (hs : 0 < s.drop + s.add.length) : Closed done (init ++ [s]) ((newOf done).length + 1) := by
  obtain ⟨u, v, h1, h2, h3, h4⟩ := h.app
  refine ⟨fun rest => ?_, ?_, fun t ht => ?_, ?_, ?_⟩
  · rw [ints, List.map_append, app_append]
    have := h4 rest
    rw [ints] at this
    rw [this]
    simp only [Option.bind_some, List.map_cons, List.map_nil, Go.Proofs.Ytfnbchbndmbjaaa.app]
    rw [app1_mid u v rest s h2 h3, h1]
  · rw [List.append_assoc]
    refine (chain_snoc2 init s _).2 ⟨h.ord, ?_⟩
    rw [h1, List.length_append]
    show s.at_ + s.add.length < u.length + s.add.length + 1
    omega
  · rcases List.mem_append.1 ht with ht | ht
    · exact h.full t ht
    · rw [List.mem_singleton] at ht; subst ht; exact hs
  · rw [sumDrop_append]; have := h.drops; simp [sumDrop]; omega
  · rw [sumAdd_append]; have := h.adds; simp [sumAdd]; omega
theorem Open.dels {done : List Ev} {init : List Spl} {s : Spl} (h : Open done init s) (n : Int) : Open (done ++ [.del n]) init { s with drop := s.drop + 1 } := by
  obtain ⟨u, v, h1, h2, h3, h4⟩ := h.app
  refine ⟨⟨u, v ++ [n], by simpa [newOf_append, newOf] using h1, h2, by simp [h3], fun rest => ?_⟩, chain_last h.ord rfl, h.full, ?_, ?_⟩
  · have := h4 (n :: rest)
    simpa [oldOf_append, oldOf] using this
  · have := h.drops; simp [oldOf_append, kept_append, oldOf, kept]; omega
  · have := h.adds; simp [newOf_append, kept_append, newOf, kept]; omega
theorem Open.inss {done : List Ev} {init : List Spl} {s : Spl} (h : Open done init s) (n : Int) : Open (done ++ [.ins n]) init { s with add := s.add ++ [n] } := by
  obtain ⟨u, v, h1, h2, h3, h4⟩ := h.app
  refine ⟨⟨u, v, by simp [newOf_append, newOf, h1], h2, h3, fun rest => ?_⟩, chain_last h.ord rfl, h.full, ?_, ?_⟩
  · have := h4 rest
    simpa [oldOf_append, oldOf] using this
  · have := h.drops; simp [oldOf_append, kept_append, oldOf, kept]; omega
  · have := h.adds; simp [newOf_append, kept_append, newOf, kept]; omega

/-- What the differ's state holds. -/
def Holds (done : List Ev) (d : Dst) : Prop :=
  d.at_ = (newOf done).length ∧ ((d.opened = false ∧ Closed done d.out d.at_) ∨ (d.opened = true ∧ ∃ init s, d.out = init ++ [s] ∧ Open done init s ∧ 0 < s.drop + s.add.length))
theorem Holds.last {done : List Ev} {d : Dst} (h : Holds done d) : ∃ init s, d.last = init ++ [s] ∧ Open done init s := by
  obtain ⟨h1, h2⟩ := h
  unfold Dst.last
  rcases h2 with ⟨ho, hc⟩ | ⟨ho, init, s, e, hop, _⟩
  · rw [ho]; exact ⟨d.out, _, rfl, hc.opens h1⟩
  · rw [ho]; exact ⟨init, s, e, hop⟩
theorem Holds.step {done : List Ev} {d : Dst} (h : Holds done d) (x : Ev) : Holds (done ++ [x]) (d.step x) := by
  cases x with
  | keep n =>
    refine ⟨by simp [Dst.step, newOf_append, newOf, h.1], .inl ⟨rfl, ?_⟩⟩
    obtain ⟨h1, h2⟩ := h
    simp only [Dst.step]
    rcases h2 with ⟨_, hc⟩ | ⟨_, init, s, e, hop, hs⟩
    · exact hc.keeps n
    · have h3 := hop.closes hs
      rw [← e] at h3
      refine ⟨fun rest => ?_, ?_, h3.full, ?_, ?_⟩
      · have := h3.app (n :: rest)
        simpa [oldOf_append, newOf_append, oldOf, newOf] using this
      · rw [h1]; exact h3.ord
      · have := h3.drops; simp [oldOf_append, kept_append, oldOf, kept]; omega
      · have := h3.adds; simp [newOf_append, kept_append, newOf, kept]; omega
  | del n =>
    obtain ⟨init, s, e, hop⟩ := h.last
    refine ⟨by simp [Dst.step, newOf_append, newOf, h.1], .inr ⟨rfl, init, _, by simp only [Dst.step]; rw [e, mapLast_snoc], hop.dels n, by simp; omega⟩⟩
  | ins n =>
    obtain ⟨init, s, e, hop⟩ := h.last
    refine ⟨by simp [Dst.step, newOf_append, newOf, h.1], .inr ⟨rfl, init, _, by simp only [Dst.step]; rw [e, mapLast_snoc], hop.inss n, by simp; omega⟩⟩
theorem holds_run (e : List Ev) : ∀ (done : List Ev) (d : Dst), Holds done d → Holds (done ++ e) (d.run e) := by
  induction e with
  | nil => intro done d h; simpa [Dst.run] using h
  | cons x r ih =>
    intro done d h
    have := ih (done ++ [x]) (d.step x) (h.step x)
    rw [List.append_assoc] at this
    exact this
theorem holds_zero (e : List Ev) : Holds e (Dst.zero.run e) := by
  have h0 : Holds [] Dst.zero := ⟨rfl, .inl ⟨rfl, ⟨fun rest => rfl, trivial, (fun t ht => by cases ht), rfl, rfl⟩⟩⟩
  simpa using holds_run e [] Dst.zero h0

/-- After all events: the whole, whether a splice is open or not. -/
theorem holds_end {e : List Ev} {d : Dst} (h : Holds e d) : (∀ rest, app (oldOf e ++ rest) (ints d.out) = some (newOf e ++ rest)) ∧ chain d.out ∧ (∀ t ∈ d.out, 0 < t.drop + t.add.length) ∧ sumDrop d.out + (kept e).length = (oldOf e).length ∧ sumAdd d.out + (kept e).length = (newOf e).length := by
  obtain ⟨h1, h2⟩ := h
  rcases h2 with ⟨_, hc⟩ | ⟨_, init, s, e1, hop, hs⟩
  · exact ⟨hc.app, chain_init hc.ord, hc.full, hc.drops, hc.adds⟩
  · have h3 := hop.closes hs
    rw [← e1] at h3
    exact ⟨h3.app, chain_init h3.ord, h3.full, h3.drops, h3.adds⟩

theorem diff_small_laws (a b : List Int) (ha : a.length ≤ 1024) (hb : b.length ≤ 1024) : app a (ints (diffS a b)) = some b ∧ chain (diffS a b) ∧ (∀ t ∈ diffS a b, 0 < t.drop + t.add.length) ∧ sumDrop (diffS a b) + (keepS a b).length = a.length ∧ sumAdd (diffS a b) + (keepS a b).length = b.length := by
  have h := holds_end (holds_zero (align a b))
  rw [align_old, align_new] at h
  unfold diffS keepS
  rw [if_neg (by omega), if_neg (by omega)]
  refine ⟨?_, h.2⟩
  simpa using h.1 []
theorem align_self (a : List Int) : align a a = a.map .keep := by
  induction a with
  | nil => simp [align]
  | cons x r ih => rw [align, if_pos rfl, ih]; rfl
theorem run_keeps (l : List Int) (d : Dst) : (d.run (l.map .keep)).out = d.out := by
  induction l generalizing d with
  | nil => rfl
  | cons x r ih => exact ih (d.step (.keep x))
theorem diff_nil_iff (a b : List Int) (ha : a.length ≤ 1024) (hb : b.length ≤ 1024) : (diffS a b).length = 0 ↔ a = b := by
  constructor
  · intro h
    have h1 := (diff_small_laws a b ha hb).1
    rw [List.eq_nil_of_length_eq_zero h] at h1
    injection h1
  · rintro rfl
    unfold diffS
    rw [if_neg (by omega), align_self, run_keeps]
    rfl
end Go.Proofs.Ytfnbchbndmbjaaa
