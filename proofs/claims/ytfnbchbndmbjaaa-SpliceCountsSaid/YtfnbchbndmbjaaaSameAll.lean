/- SameAll: equality of two lists of splices. -/
import Derived.Test.YtfnbchbndmbjaaaSpls
namespace Go.Proofs.Ytfnbchbndmbjaaa
open Go.RowKit
set_option linter.unusedVariables false

/-- 'A' with 'n' places reads as the splices 'l'. -/
def Spis (w : World) (B : Nat) (A : Option Addr) (n : Nat) (l : List Spi) : Prop :=
  n = l.length ∧ ∀ k, k < n → ∃ ad s X x c, A = some ad ∧ ad.block < B ∧ l[k]? = some s ∧ (-9223372036854775808 ≤ s.at_ ∧ s.at_ ≤ 9223372036854775807) ∧ (-9223372036854775808 ≤ s.drop ∧ s.drop ≤ 9223372036854775807) ∧
    w.cell? (ad.add (k * 3)) = some (.int .i64 s.at_) ∧ w.cell? (ad.add (k * 3 + 1)) = some (.int .i64 s.drop) ∧ w.cell? (ad.add (k * 3 + 2)) = some (.slice X x c) ∧ x ≤ c ∧ c ≤ maxLen ∧ Ints w B X x s.add
theorem Spis.below {w w' : World} {B n : Nat} {A : Option Addr} {l : List Spi} (h : Spis w B A n l) (hb : Below B w w') : Spis w' B A n l := by
  refine ⟨h.1, fun k hk => ?_⟩
  obtain ⟨ad, s, X, x, c, e, h1, h2, h3, h4, h5, h6, h7, h8, h9, h10⟩ := h.2 k hk
  exact ⟨ad, s, X, x, c, e, h1, h2, h3, h4, (hb.cell (by rw [add_block]; exact h1)).trans h5, (hb.cell (by rw [add_block]; exact h1)).trans h6, (hb.cell (by rw [add_block]; exact h1)).trans h7, h8, h9, h10.below hb⟩
theorem Spis.more {w : World} {B B' n : Nat} {A : Option Addr} {l : List Spi} (h : Spis w B A n l) (hB : B ≤ B') : Spis w B' A n l := by
  refine ⟨h.1, fun k hk => ?_⟩
  obtain ⟨ad, s, X, x, c, e, h1, h2, h3, h4, h5, h6, h7, h8, h9, h10⟩ := h.2 k hk
  exact ⟨ad, s, X, x, c, e, by omega, h2, h3, h4, h5, h6, h7, h8, h9, h10.more hB⟩
theorem Spis.drewN {w : World} {B n : Nat} {A : Option Addr} {l : List Spi} (h : Spis w B A n l) (k : Nat) : Spis (w.drewN k) B A n l := h

theorem pcells_at {ps : List (Spl × Value)} {k : Nat} {p : Spl × Value} (h : ps[k]? = some p) : (pcells ps)[k * 3]? = some (.int .i64 p.1.at_) ∧ (pcells ps)[k * 3 + 1]? = some (.int .i64 p.1.drop) ∧ (pcells ps)[k * 3 + 2]? = some p.2 := by
  induction ps generalizing k with
  | nil => cases h
  | cons q r ih =>
    cases k with
    | zero => simp at h; subst h; simp [pcells, pcell]
    | succ k =>
      have := ih (k := k) (by simpa using h)
      have e : pcells (q :: r) = pcell q ++ pcells r := rfl
      rw [e]
      have hl : (pcell q).length = 3 := rfl
      refine ⟨?_, ?_, ?_⟩
      · rw [List.getElem?_append_right (by rw [hl]; omega), hl, show (k + 1) * 3 - 3 = k * 3 by omega]; exact this.1
      · rw [List.getElem?_append_right (by rw [hl]; omega), hl, show (k + 1) * 3 + 1 - 3 = k * 3 + 1 by omega]; exact this.2.1
      · rw [List.getElem?_append_right (by rw [hl]; omega), hl, show (k + 1) * 3 + 2 - 3 = k * 3 + 2 by omega]; exact this.2.2

/-- Splices that a call owns read as a list. -/
theorem OwnPs.spis {w : World} {B : Nat} {v : Value} {ps : List (Spl × Value)} (h : OwnPs w B v ps) (hle : ∀ p ∈ ps, p.1.at_ ≤ 9223372036854775807 ∧ p.1.drop ≤ 9223372036854775807) : ∃ A c, v = .slice A ps.length c ∧ ps.length ≤ c ∧ c ≤ maxLen ∧ Spis w w.heap.size A ps.length (ps.map fun p => p.1.int) := by
  rcases h.row.2 with ⟨rfl, hn⟩ | ⟨g, cap, cur, rfl, hb, hg, h1, h2, h3, h4⟩
  · exact ⟨none, 0, by rw [hn], by omega, by simp, by simp, fun k hk => by omega⟩
  · refine ⟨_, cap, rfl, h1, h2, by simp, fun k hk => ?_⟩
    have hp : ps[k]? = some ps[k] := List.getElem?_eq_getElem hk
    obtain ⟨c1, c2, c3⟩ := pcells_at hp
    have hm : ps[k] ∈ ps := List.getElem_mem hk
    obtain ⟨X, c, e, h5, h6, h7⟩ := (h.adds _ hm).ints
    have hbd := hle _ hm
    refine ⟨⟨g, 0, none⟩, ps[k].1.int, X, _, c, rfl, (h.row.lt g rfl).2, by simp [hk], ?_, ?_, h.row.cells rfl _ _ c1, h.row.cells rfl _ _ c2, ?_, h5, h6, h7⟩
    · exact ⟨by show (-9223372036854775808 : Int) ≤ ((ps[k].1.at_ : Nat) : Int); omega, by show ((ps[k].1.at_ : Nat) : Int) ≤ 9223372036854775807; omega⟩
    · exact ⟨by show (-9223372036854775808 : Int) ≤ ((ps[k].1.drop : Nat) : Int); omega, by show ((ps[k].1.drop : Nat) : Int) ≤ 9223372036854775807; omega⟩
    · rw [← e]; exact h.row.cells rfl _ _ c3

def spt (s : Spi) : Int × Int × List Int := (s.at_, s.drop, s.add)
def spts (l : List Spi) : List (Int × Int × List Int) := l.map spt

theorem sameAll_no (A B : Option Addr) (n m c d : Nat) (w : World) (hne : ((n : Int) != (m : Int)) = true) :
    Calls Try.prog 14 #[.slice A n c, .slice B m d] w fun e w' => e = .returned (.bool false) ∧ w = w' := by
  go_enter Try.func14, Try.ntmps14
  go_wp2
  go_ret
  exact ⟨rfl, rfl⟩
theorem take_spts {xs ys : List Spi} {k : Nat} {s t : Spi} (h : spts (xs.take k) = spts (ys.take k)) (hs : xs[k]? = some s) (ht : ys[k]? = some t) (he : spt s = spt t) : spts (xs.take (k + 1)) = spts (ys.take (k + 1)) := by
  rw [List.take_add_one, List.take_add_one, hs, ht]
  simp only [spts, List.map_append] at h ⊢
  rw [h]
  simp [he]
theorem spts_ne {xs ys : List Spi} {k : Nat} {s t : Spi} (hs : xs[k]? = some s) (ht : ys[k]? = some t) (he : spt s ≠ spt t) : spts xs ≠ spts ys := by
  intro h
  have h1 : (spts xs)[k]? = (spts ys)[k]? := by rw [h]
  simp [spts, hs, ht] at h1
  exact he h1

set_option maxRecDepth 100000 in
set_option maxHeartbeats 2000000 in
theorem sameAll_eq (A B : Option Addr) (n c d : Nat) (xs ys : List Spi) (w : World) (ha : Spis w w.heap.size A n xs) (hb : Spis w w.heap.size B n ys) (hn : n ≤ maxLen) :
    Calls Try.prog 14 #[.slice A n c, .slice B n d] w fun e w' => e = .returned (.bool (decide (spts xs = spts ys))) ∧ ∃ k, w' = w.drewN k := by
  unfold maxLen at hn
  have HXL := Lib.hid ha.1
  have HYL := Lib.hid hb.1
  have HA := Lib.hid ha
  have HB := Lib.hid hb
  clear ha hb
  go_enter Try.func14, Try.ntmps14
  go_wp2
  go_loopw [5] (fun i wr => ∃ k : Nat, k ≤ n ∧ i = .int .i64 k ∧ Hid (spts (xs.take k) = spts (ys.take k)) ∧ Hid (∃ d, wr = w.drewN d)) (fun i _ => n - (intOf i).toNat)
  case atStart => exact ⟨0, Nat.zero_le _, rfl, rfl, 0, rfl⟩
  case round =>
    obtain ⟨k, hk, rfl, HT, HW⟩ := hrel
    by_cases hlt : k < n
    · have hA : Spis wr wr.heap.size A n xs := by obtain ⟨d, rfl⟩ := HW.out; exact HA.out
      have hB : Spis wr wr.heap.size B n ys := by obtain ⟨d, rfl⟩ := HW.out; exact HB.out
      obtain ⟨ad, s, X, x, cx, rfl, _, hxs, _, _, a0, a1, a2, hx1, hx2, hxi⟩ := hA.2 k hlt
      obtain ⟨bd, t, Y, y, cy, rfl, _, hyt, _, _, b0, b1, b2, hy1, hy2, hyi⟩ := hB.2 k hlt
      have HS := Lib.hid (And.intro hxs hyt)
      have HXI := Lib.hid hxi
      have HYI := Lib.hid hyi
      obtain ⟨s0, s1, s2⟩ := s
      obtain ⟨t0, t1, t2⟩ := t
      have hxm : x ≤ maxLen := by omega
      have HXM := Lib.hid hxm
      replace a0 : wr.cell? (ad.add (k * 3)) = some (.int .i64 s0) := a0
      replace a1 : wr.cell? (ad.add (k * 3 + 1)) = some (.int .i64 s1) := a1
      replace b0 : wr.cell? (bd.add (k * 3)) = some (.int .i64 t0) := b0
      replace b1 : wr.cell? (bd.add (k * 3 + 1)) = some (.int .i64 t1) := b1
      clear hxs hyt hxi hyi hA hB hxm hx1 hx2 hy1 hy2
      rw [← add_add'] at a1 a2 b1 b2
      replace a1 : wr.cell? ⟨(ad.add (k * 3)).block, (ad.add (k * 3)).off + 1, none⟩ = _ := a1
      replace a2 : wr.cell? ⟨(ad.add (k * 3)).block, (ad.add (k * 3)).off + 2, none⟩ = _ := a2
      replace b1 : wr.cell? ⟨(bd.add (k * 3)).block, (bd.add (k * 3)).off + 1, none⟩ = _ := b1
      replace b2 : wr.cell? ⟨(bd.add (k * 3)).block, (bd.add (k * 3)).off + 2, none⟩ = _ := b2
      by_cases e0 : s0 = t0
      · have h0 : (s0 != t0) = false := by simpa using e0
        have E0 := Lib.hid e0; clear e0
        by_cases e1 : s1 = t1
        · have h1 : (s1 != t1) = false := by simpa using e1
          have E1 := Lib.hid e1; clear e1
          by_cases e2 : s2 = t2
          · have HC : Hid (∀ j, Calls Try.prog 11 #[.slice X x cx, .slice Y y cy] (wr.drewN j) fun e w' => e = .returned (.bool true) ∧ ∃ k, w' = (wr.drewN j).drewN k) := fun j => by
              have := same_any X Y x y cx cy s2 t2 (wr.drewN j) (HXI.out.drewN j) (HYI.out.drewN j) HXM.out
              rwa [show decide (s2 = t2) = true by simp [e2]] at this
            have E2 := Lib.hid e2; clear e2
            go_wp2
            go_quiet ((go_at_call 11; exact Calls.quiet_of (HC.out _)))
            go_wp2
            go_roundw
            case rel => exact ⟨k + 1, by omega, by go_num, take_spts HT.out HS.out.1 HS.out.2 (by simp [spt, E0.out, E1.out, E2.out]), by obtain ⟨d, rfl⟩ := HW.out; exact ⟨d + nq, World.drewN_drewN w d nq⟩⟩
            case measure => simp [intOf] <;> omega
          · have HC : Hid (∀ j, Calls Try.prog 11 #[.slice X x cx, .slice Y y cy] (wr.drewN j) fun e w' => e = .returned (.bool false) ∧ ∃ k, w' = (wr.drewN j).drewN k) := fun j => by
              have := same_any X Y x y cx cy s2 t2 (wr.drewN j) (HXI.out.drewN j) (HYI.out.drewN j) HXM.out
              rwa [show decide (s2 = t2) = false by simp [e2]] at this
            have E2 := Lib.hid e2; clear e2
            go_wp2
            go_quiet ((go_at_call 11; exact Calls.quiet_of (HC.out _)))
            go_wp2
            go_ret
            exact ⟨ret_bool (by simp; exact spts_ne HS.out.1 HS.out.2 (by simp [spt]; intro _ _; exact E2.out)), by obtain ⟨d, rfl⟩ := HW.out; exact ⟨d + nq, World.drewN_drewN w d nq⟩⟩
        · have h1 : (s1 != t1) = true := by simpa using e1
          have E1 := Lib.hid e1; clear e1
          go_wp2
          go_quiet (fail)
          go_wp2
          go_ret
          exact ⟨ret_bool (by simp; exact spts_ne HS.out.1 HS.out.2 (by simp [spt]; intro _ h; exact absurd h E1.out)), by obtain ⟨d, rfl⟩ := HW.out; exact ⟨d + nq, World.drewN_drewN w d nq⟩⟩
      · have h0 : (s0 != t0) = true := by simpa using e0
        have E0 := Lib.hid e0; clear e0
        go_wp2
        go_quiet (fail)
        go_wp2
        go_ret
        exact ⟨ret_bool (by simp; exact spts_ne HS.out.1 HS.out.2 (by simp [spt]; intro h; exact absurd h E0.out)), by obtain ⟨d, rfl⟩ := HW.out; exact ⟨d + nq, World.drewN_drewN w d nq⟩⟩
    · have HE := Lib.hid (show spts xs = spts ys by
        have h := HT.out
        rw [List.take_of_length_le (by have := HXL.out; omega), List.take_of_length_le (by have := HYL.out; omega)] at h
        exact h)
      go_wp2
      go_ret
      exact ⟨ret_bool (by simp [HE.out]), by obtain ⟨d, rfl⟩ := HW.out; exact ⟨d, rfl⟩⟩

theorem sameAll_any (A B : Option Addr) (n m c d : Nat) (xs ys : List Spi) (w : World) (ha : Spis w w.heap.size A n xs) (hb : Spis w w.heap.size B m ys) (hn : n ≤ maxLen) :
    Calls Try.prog 14 #[.slice A n c, .slice B m d] w fun e w' => e = .returned (.bool (decide (spts xs = spts ys))) ∧ ∃ k, w' = w.drewN k := by
  by_cases h : n = m
  · subst h
    exact sameAll_eq A B n c d xs ys w ha hb hn
  · refine (sameAll_no A B n m c d w (by simp; omega)).mono ?_
    rintro e w' ⟨rfl, rfl⟩
    refine ⟨ret_bool ?_, 0, rfl⟩
    have h1 := ha.1
    have h2 := hb.1
    symm
    simp
    intro e
    have := congrArg List.length e
    simp [spts] at this
    omega
end Go.Proofs.Ytfnbchbndmbjaaa
