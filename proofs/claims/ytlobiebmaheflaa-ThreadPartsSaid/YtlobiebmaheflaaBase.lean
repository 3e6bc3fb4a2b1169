/- Words for memory that the thread proofs share: a run of cells that reads as a list, kept by whatever leaves older blocks alone. No condition. -/
import Derived.Test.YtlobiebmaheflaaRows
import Derived.WalkKit
import Derived.WalkSpells
import Derived.WalkLawsBesides
import Derived.BigQuiet
import Derived.Deep.QuietTactic
import Derived.Lib.Hide
import Derived.Laws.OwnMore
import Derived.Deep.AppendLies
import Derived.Deep.Draws
import Derived.Maps.AppendAt
import Derived.Maps.OwnSet
import Derived.Maps.RangeWalk
import Derived.WideKeyEntry
import Derived.DeepKeys4
import Derived.OneCell
import Derived.Test.YtlobiebmaheflaaPlain
namespace Go.Proofs.Ytlobiebmaheflaa
open Go.RowKit
set_option linter.unusedVariables false

theorem add_block (a : Addr) (n : Nat) : (a.add n).block = a.block := by unfold Addr.add; split <;> rfl
theorem add_add' (a : Addr) (i j : Nat) : (a.add i).add j = a.add (i + j) := by
  unfold Addr.add
  by_cases hi : i = 0 <;> by_cases hj : j = 0 <;> simp [hi, hj, Nat.add_assoc]

/-- The cells 'xs' lie from 'A' on, in a block below B. -/
def Run (w : World) (B : Nat) (A : Option Addr) (xs : List Value) : Prop :=
  xs = [] ∨ ∃ ad, A = some ad ∧ ad.block < B ∧ ∀ j u, xs[j]? = some u → w.cell? (ad.add j) = some u

section
variable {w w' : World} {B B' : Nat} {A : Option Addr} {xs : List Value}
theorem Run.nil_ : Run w B A [] := .inl rfl
theorem Run.at_ {k : Nat} (h : Run w B A xs) (hk : k < xs.length) : ∃ ad u, A = some ad ∧ ad.block < B ∧ xs[k]? = some u ∧ w.cell? (ad.add k) = some u := by
  rcases h with rfl | ⟨ad, e, hb, hc⟩
  · simp at hk
  · exact ⟨ad, xs[k], e, hb, List.getElem?_eq_getElem hk, hc k _ (List.getElem?_eq_getElem hk)⟩
theorem Run.keep (h : Run w B A xs) (hk : ∀ p : Addr, p.block < B → w'.cell? p = w.cell? p) : Run w' B A xs := by
  rcases h with h | ⟨ad, e, hb, hc⟩
  · exact .inl h
  · exact .inr ⟨ad, e, hb, fun j u hu => (hk _ (by rw [add_block]; exact hb)).trans (hc j u hu)⟩
theorem Run.more (h : Run w B A xs) (hB : B ≤ B') : Run w B' A xs := by
  rcases h with h | ⟨ad, e, hb, hc⟩
  · exact .inl h
  · exact .inr ⟨ad, e, by omega, hc⟩
theorem Run.below (h : Run w B A xs) (hb : Below B w w') : Run w' B A xs := h.keep fun _ hp => hb.cell hp
theorem Run.drew (h : Run w B A xs) : Run w.drew B A xs := h
theorem Run.drewN (h : Run w B A xs) (k : Nat) : Run (w.drewN k) B A xs := h
theorem Run.cut (h : Run w B A xs) {k cap : Nat} (hc : xs.length ≤ cap) :
    Run w B (if cap = k then A else A.map (·.add k)) (xs.drop k) := by
  rcases h with rfl | ⟨ad, rfl, hb, hcell⟩
  · exact .inl (by simp)
  · by_cases hk : xs.length ≤ k
    · exact .inl (by simp [hk])
    · rw [if_neg (by omega)]
      refine .inr ⟨ad.add k, rfl, by rw [add_block]; exact hb, fun j u hu => ?_⟩
      rw [add_add']
      exact hcell _ u (by rw [← hu, List.getElem?_drop])
theorem Run.take (h : Run w B A xs) (k : Nat) : Run w B A (xs.take k) := by
  rcases h with rfl | ⟨ad, rfl, hb, hcell⟩
  · exact .inl (by simp)
  · refine .inr ⟨ad, rfl, hb, fun j u hu => hcell j u ?_⟩
    rw [List.getElem?_take] at hu
    split at hu
    · exact hu
    · cases hu
theorem Run.of_own {base size n : Nat} {e : TypeId} {c : Nat} (h : w.ownsRow base e size (.slice A n c) n xs) : Run w w.heap.size A xs := by
  by_cases hn : n = 0
  · have := h.1; rw [hn] at this; exact .inl (List.eq_nil_of_length_eq_zero (by simpa using this))
  · obtain ⟨g, cap, hv, _, hlt⟩ := h.form (by omega)
    have hA : A = some ⟨g, 0, none⟩ := by injection hv
    subst hA
    exact .inr ⟨_, rfl, hlt, h.cells (g := g) rfl⟩
end

/-- Integers as values, and the bounds that an int of Go keeps. -/
def iv (l : List Int) : List Value := l.map (Value.int .i64)
/-- Element k (0 beyond the end), under a name that simp leaves alone. -/
def gi (l : List Int) (k : Nat) : Int := l.getD k 0
theorem gi_get {l : List Int} {k : Nat} (h : k < l.length) : gi l k = l[k] := by simp [gi, h]
def I64s (l : List Int) : Prop := ∀ x ∈ l, -9223372036854775808 ≤ x ∧ x ≤ 9223372036854775807
/-- 'A' with 'n' places reads as the integers 'l'. -/
def Ints (w : World) (B : Nat) (A : Option Addr) (n : Nat) (l : List Int) : Prop := n = l.length ∧ I64s l ∧ Run w B A (iv l)

section
variable {w w' : World} {B B' n : Nat} {A : Option Addr} {l : List Int}
theorem Ints.at_ {k : Nat} (h : Ints w B A n l) (hk : k < n) : ∃ ad, A = some ad ∧ ad.block < B ∧ w.cell? (ad.add k) = some (.int .i64 (gi l k)) := by
  obtain ⟨rfl, _, hr⟩ := h
  obtain ⟨ad, u, e, hb, hx, hc⟩ := hr.at_ (k := k) (by simpa [iv] using hk)
  refine ⟨ad, e, hb, ?_⟩
  rw [hc, ← hx]
  simp [iv, hk, gi]
theorem Ints.len (h : Ints w B A n l) : l.length = n := h.1.symm
theorem Ints.bounds (h : Ints w B A n l) (k : Nat) : -9223372036854775808 ≤ gi l k ∧ gi l k ≤ 9223372036854775807 := by
  unfold gi
  by_cases hk : k < l.length
  · have := h.2.1 (l[k]) (List.getElem_mem hk)
    simpa [List.getD_eq_getElem?_getD, List.getElem?_eq_getElem hk] using this
  · rw [List.getD_eq_getElem?_getD, List.getElem?_eq_none (by omega)]; simp
theorem Ints.below (h : Ints w B A n l) (hb : Below B w w') : Ints w' B A n l := ⟨h.1, h.2.1, h.2.2.below hb⟩
theorem Ints.more (h : Ints w B A n l) (hB : B ≤ B') : Ints w B' A n l := ⟨h.1, h.2.1, h.2.2.more hB⟩
theorem Ints.drewN (h : Ints w B A n l) (k : Nat) : Ints (w.drewN k) B A n l := h
theorem Ints.nil_ : Ints w B A 0 [] := ⟨rfl, (fun x hx => by cases hx), .inl rfl⟩
end
end Go.Proofs.Ytlobiebmaheflaa
