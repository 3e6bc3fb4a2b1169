/- Layer 34, plain: words that follow each other. -/
import Derived.Test.YtfinpehbpcckaaaGreatDoorFinds
namespace Go.Proofs.YtfinpehbpcckaaaGreatDoor
open Go.RowKit
set_option linter.unusedVariables false

theorem asc_same {a : List Post} (h : AscK Post.doc a) {x y : Post} (hx : x ∈ a) (hy : y ∈ a) (e : x.doc = y.doc) : x = y := by
  obtain ⟨i, hi, rfl⟩ := List.getElem_of_mem hx
  obtain ⟨j, hj, rfl⟩ := List.getElem_of_mem hy
  rcases Nat.lt_trichotomy i j with h1 | h1 | h1
  · have := List.pairwise_iff_getElem.1 h i j hi hj h1; omega
  · subst h1; rfl
  · have := List.pairwise_iff_getElem.1 h j i hj hi h1; omega
theorem nextP_has {a b : List Post} (ha : Fine a) (hb : Fine b) (gap d k : Int) : Has (nextP gap a b) d k ↔ Has a d (k - gap) ∧ Has b d k := by
  have hev := evs_ok a b ha.docs hb.docs
  constructor
  · rintro ⟨p, hp, rfl, hk⟩
    obtain ⟨e, he, hp⟩ := List.mem_filterMap.1 hp
    have ho := hev e he
    obtain ⟨x, y⟩ := e
    cases x with
    | none => simp [nextEv] at hp
    | some x => cases y with
      | none => simp [nextEv] at hp
      | some y =>
        unfold nextEv at hp
        dsimp only at hp
        split at hp
        · cases hp
        · have e := (Option.some.inj hp).symm
          subst e
          obtain ⟨h1, h2⟩ := List.mem_filter.1 hk
          exact ⟨⟨x, ho.1, ho.2.2, by simpa using h2⟩, ⟨y, ho.2.1, rfl, h1⟩⟩
  · rintro ⟨⟨x, hx, hxd, hxk⟩, ⟨y, hy, hyd, hyk⟩⟩
    have hm := (evs_asc a b ha.docs hb.docs).2 d
    obtain ⟨e, he, hek⟩ := List.mem_map.1 (hm.2 (.inl ⟨x, hx, hxd⟩))
    have ho := hev e he
    obtain ⟨x', y'⟩ := e
    cases x' with
    | none => cases y' with
      | none => exact ho.elim
      | some y' => exact absurd (hxd.trans hek.symm) (ho.2 x hx)
    | some x' => cases y' with
      | none => exact absurd (hyd.trans hek.symm) (ho.2 y hy)
      | some y' =>
        have ex : x' = x := asc_same ha.docs ho.1 hx (by have : x'.doc = d := hek; omega)
        have ey : y' = y := asc_same hb.docs ho.2.1 hy (by have h1 : x'.doc = d := hek; have h2 : x'.doc = y'.doc := ho.2.2; omega)
        subst ex; subst ey
        have hq : k ∈ nextQ gap x' y' := List.mem_filter.2 ⟨hyk, by simpa using hxk⟩
        refine ⟨⟨y'.doc, nextQ gap x' y'⟩, List.mem_filterMap.2 ⟨_, he, ?_⟩, hyd, hq⟩
        unfold nextEv
        dsimp only
        rw [if_neg]
        intro e
        rw [e] at hq
        cases hq
theorem look_fine {U : List Ent} {s : Seg} (h : Built U s) (g : Goods U) (hU : EFew U) {field : Int} (hf : field ≠ 0) (w : List UInt8) : Fine (lookP s field w) ∧ ∀ p, p ∈ lookP s field w → ∀ n, n ∈ p.places → 0 ≤ n ∧ n ≤ 1099511627776 := by
  refine ⟨(found_has h g hU field _).1, fun p hp n hn => ?_⟩
  have h1 := (look_has h g hU hf w p.doc n).1 ⟨p, hp, rfl, hn⟩
  rcases placesE_cases g.apart (field, w) p.doc with h2 | ⟨e, he, _, _, h2⟩
  · rw [h2] at h1; cases h1
  · rw [h2] at h1
    obtain ⟨j, rfl, hj⟩ := idxs_mem.1 h1
    have h3 := (List.getElem?_eq_some_iff.1 hj).1
    have h4 := list_few e.text
    have h5 := hU.text e he
    omega
theorem next_entry {U : List Ent} {s : Seg} (h : Built U s) (g : Goods U) (hU : EFew U) {e : Ent} (he : e ∈ U) (x y : List UInt8) (k : Nat) :
    Has (nextP 1 (lookP s e.field x) (lookP s e.field y)) e.doc (k : Int) ↔ 0 < k ∧ (listP e.text)[k - 1]? = some x ∧ (listP e.text)[k]? = some y := by
  have hf := (countsP_iff.1 (g.counts e he)).2
  rw [nextP_has (look_fine h g hU (by omega) x).1 (look_fine h g hU (by omega) y).1, look_entry h g hU he y k]
  by_cases h0 : 0 < k
  · have e1 : (k : Int) - 1 = ((k - 1 : Nat) : Int) := by omega
    rw [e1, look_entry h g hU he x (k - 1)]
    exact ⟨fun ⟨a, b⟩ => ⟨h0, a, b⟩, fun ⟨_, a, b⟩ => ⟨a, b⟩⟩
  · constructor
    · rintro ⟨h1, _⟩
      have h2 := (look_has h g hU (by omega) x e.doc ((k : Int) - 1)).1 h1
      rw [placesE_in g.apart he x] at h2
      obtain ⟨j, hj, _⟩ := idxs_mem.1 h2
      omega
    · rintro ⟨h1, _⟩
      exact absurd h1 h0
theorem next_len (gap : Int) (a b : List Post) : (nextP gap a b).length ≤ a.length + b.length := Nat.le_trans (List.length_filterMap_le _ _) (evs_len a b)
theorem next_small {s : Seg} (hf : SegFew s) (field : Int) (x y : List UInt8) : (nextP 1 (lookP s field x) (lookP s field y)).length ≤ 500000000 := by
  have h := next_len 1 (lookP s field x) (lookP s field y)
  have h1 := (look_small hf field (fun w => decide (w = x))).1
  have h2 := (look_small hf field (fun w => decide (w = y))).1
  have h3 : (lookP s field x).length ≤ 250000000 := h1
  have h4 : (lookP s field y).length ≤ 250000000 := h2
  omega
theorem next_places {a b : List Post} (ha : Fine a) (hb : Fine b) {gap : Int} {N : Nat} (h : ∀ q, q ∈ b → q.places.length ≤ N) : ∀ p, p ∈ nextP gap a b → p.places.length ≤ N := by
  intro p hp
  obtain ⟨e, he, hp⟩ := List.mem_filterMap.1 hp
  have ho := evs_ok a b ha.docs hb.docs e he
  obtain ⟨x, y⟩ := e
  cases x with
  | none => simp [nextEv] at hp
  | some x => cases y with
    | none => simp [nextEv] at hp
    | some y =>
      unfold nextEv at hp
      dsimp only at hp
      split at hp
      · cases hp
      · have e := (Option.some.inj hp).symm
        subst e
        exact Nat.le_trans (List.length_filter_le _ _) (h y ho.2.1)
/-- What Next has handed back. -/
def NRel (w6 : World) (l : List Post) (v : Value) (wc : World) : Prop := ∃ A n c, v = .slice A n c ∧ Posts wc wc.heap.size A n l ∧ n = l.length ∧ Below w6.heap.size w6 wc
end Go.Proofs.YtfinpehbpcckaaaGreatDoor
