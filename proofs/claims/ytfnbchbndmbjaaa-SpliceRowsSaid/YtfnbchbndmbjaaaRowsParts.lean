/- Parts of slices of splices; a loop that adds one to each element of a slice of the call's own. -/
import Derived.Test.YtfnbchbndmbjaaaSpls
import Derived.Test.YtfnbchbndmbjaaaCameS
namespace Go.Proofs.Ytfnbchbndmbjaaa
open Go.RowKit
set_option linter.unusedVariables false

theorem size30 (W : World) : (sizeOf (Try.prog.elem 27)).run Try.prog W = .ok 3 W := by
  obtain ⟨i0, hi, hz0, hz1, hz2⟩ := info_parts spl_info
  rw [show Try.prog.elem 27 = 30 from rfl]
  simp [sizeOf, typeInfo, hi, hz1]
theorem take_spls {A : Option Addr} {n c h : Nat} (hn : h ≤ c) (W : World) : (Instr.slice 27 (.slice A n c) none (some (.int .i64 (h : Int))) none).run Try.prog W = .ok (.slice A h c) W := by
  rw [run_slice_h (P := Try.prog) W 27 A n c Try.underlying27 .i64 (h : Int) (by omega) (by omega), size30]
  have ha : A.map (·.add 0) = A := by cases A <;> simp [Addr.add]
  simp [Result.andThen, sliced, ha]
theorem cut_spls {A : Option Addr} {n c h : Nat} (hn : h ≤ n) (W : World) : (Instr.slice 27 (.slice A n c) (some (.int .i64 (h : Int))) none none).run Try.prog W =
    .ok (.slice (if c = h then A else A.map (·.add (h * 3))) (n - h) (c - h)) W := by
  rw [run_slice_l (P := Try.prog) W 27 A n c Try.underlying27 .i64 (h : Int) (by omega) (by omega), size30]
  simp [Result.andThen, sliced]
theorem Spis.take {w : World} {B n h : Nat} {A : Option Addr} {l : List Spi} (hi : Spis w B A n l) (hh : h ≤ n) : Spis w B A h (l.take h) := by
  refine ⟨by have := hi.1; simp; omega, fun k hk => ?_⟩
  obtain ⟨ad, s, X, x, c, e, h1, h2, r⟩ := hi.2 k (by omega)
  exact ⟨ad, s, X, x, c, e, h1, by rw [List.getElem?_take, if_pos hk]; exact h2, r⟩
theorem Spis.cut {w : World} {B n c h : Nat} {A : Option Addr} {l : List Spi} (hi : Spis w B A n l) (hc : n ≤ c) (hh : h ≤ n) : Spis w B (if c = h then A else A.map (·.add (h * 3))) (n - h) (l.drop h) := by
  refine ⟨by have := hi.1; simp; omega, fun k hk => ?_⟩
  obtain ⟨ad, s, X, x, cx, e, h1, h2, h3, h4, a0, a1, a2, r⟩ := hi.2 (h + k) (by omega)
  rw [if_neg (by omega)]
  subst e
  refine ⟨ad.add (h * 3), s, X, x, cx, rfl, by rw [add_block]; exact h1, by rw [List.getElem?_drop]; exact h2, h3, h4, ?_, ?_, ?_, r⟩
  · rw [add_add', ← Nat.add_mul]; exact a0
  · rw [add_add', ← Nat.add_assoc, ← Nat.add_mul]; exact a1
  · rw [add_add', ← Nat.add_assoc, ← Nat.add_mul]; exact a2

theorem app_len {M : Nat} (ss : List Spi) : ∀ (l r : List Int), (∀ s ∈ ss, s.add.length ≤ M) → app l ss = some r → r.length ≤ l.length + ss.length * M := by
  induction ss with
  | nil => intro l r _ h; injection h with h; subst h; simp
  | cons s t ih =>
    intro l r hm h
    simp only [app] at h
    cases h1 : app1 l s with
    | none => rw [h1] at h; cases h
    | some x =>
      rw [h1] at h
      have h2 := ih x r (fun s hs => hm s (List.mem_cons_of_mem _ hs)) h
      have h3 : x.length ≤ l.length + M := by
        unfold app1 at h1
        split at h1
        · cases h1
        · injection h1 with h1
          have := hm s (by simp)
          rw [← h1]
          simp only [List.length_append, List.length_take, List.length_drop]
          omega
      simp only [List.length_cons, Nat.succ_mul]
      omega

def bump (x : Int) : Int := wrap64 (x + 1)
theorem bump_bd (x : Int) : -9223372036854775808 ≤ bump x ∧ bump x ≤ 9223372036854775807 := by unfold bump wrap64; omega
def bumps (r : List Int) (j : Nat) : List Int := (r.take j).map bump ++ r.drop j
theorem bumps_len (r : List Int) (j : Nat) : (bumps r j).length = r.length := by simp [bumps]; omega
theorem bumps_gi (r : List Int) {j : Nat} (h : j < r.length) : gi (bumps r j) j = gi r j := by
  simp only [bumps, gi, List.getD_eq_getElem?_getD]
  rw [List.getElem?_append_right (by simp; omega)]
  simp [show min j r.length = j by omega]
theorem bumps_next (r : List Int) {j : Nat} (h : j < r.length) : (bumps r j).set j (bump (gi r j)) = bumps r (j + 1) := by
  have e1 : r.drop j = gi r j :: r.drop (j + 1) := by rw [List.drop_eq_getElem_cons h, gi_get h]
  have e2 : r.take (j + 1) = r.take j ++ [gi r j] := by rw [List.take_succ_eq_append_getElem h, gi_get h]
  have hl : ((r.take j).map bump).length = j := by simp; omega
  simp only [bumps]
  rw [e1, e2, List.set_append_right _ _ (by omega), hl, Nat.sub_self]
  simp
theorem bumps_all (r : List Int) : bumps r r.length = r.map bump := by simp [bumps]
theorem bumps_zero (r : List Int) : bumps r 0 = r := by simp [bumps]
theorem OwnInts.stored {w : World} {B g n c j : Nat} {r : List Int} {y : Int} (h : OwnInts w B (.slice (some ⟨g, 0, none⟩) n c) r) (hn : n = r.length) (hy : -9223372036854775808 ≤ y ∧ y ≤ 9223372036854775807) :
    OwnInts (w.setCell ⟨g, j, none⟩ (.int .i64 y)) B (.slice (some ⟨g, 0, none⟩) n c) (r.set j y) ∧ w.grownBy (w.setCell ⟨g, j, none⟩ (.int .i64 y)) (some g) := by
  subst hn
  have h1 := h.1.stored j (.int .i64 y)
  refine ⟨⟨?_, fun x hx => ?_⟩, h1.2⟩
  · have h2 := h1.1
    rw [List.length_set]
    have e : iv (r.set j y) = (iv r).set j (.int .i64 y) := by simp [iv, List.map_set]
    rw [e]; exact h2
  · rcases List.mem_or_eq_of_mem_set hx with hx | rfl
    · exact h.2 x hx
    · exact hy
theorem Ints.grown {w w' : World} {B n : Nat} {A : Option Addr} {l : List Int} {row : Option Nat} (h : Ints w B A n l) (hg : w.grownBy w' row) (hB : B ≤ w.heap.size) (hr : ∀ k, row = some k → B ≤ k) : Ints w' B A n l :=
  h.below ((Below.refl B w).grown hg hB hr)
theorem OwnInts.cellAt {w : World} {B g n c j : Nat} {r : List Int} (h : OwnInts w B (.slice (some ⟨g, 0, none⟩) n c) r) (hn : n = r.length) (hj : j < n) : w.cell? ⟨g, j, none⟩ = some (.int .i64 (gi r j)) ∧ w.frozen? ⟨g, j, none⟩ = false := by
  subst hn
  refine ⟨?_, h.1.frozenAt j⟩
  rw [h.1.cellAt j (by omega)]
  simp [iv, gi, hj]
end Go.Proofs.Ytfnbchbndmbjaaa
