/- SegmentTells: short, and how little a short segment holds. -/
import Derived.Test.YtfinpehbpcckaaaGreatDoorRSegRd
import Derived.Test.YtfinpehbpcckaaaGreatDoorRSegF
import Derived.Test.YtfinpehbpcckaaaGreatDoorPrefP
namespace Go.Proofs.YtfinpehbpcckaaaGreatDoor
open Go.RowKit
set_option linter.unusedVariables false

structure ShortS (s : Seg) : Prop where
  terms : s.terms.length ≤ 60
  docs : s.docs.length ≤ 60
  each : ∀ t, t ∈ s.terms → t.word.length ≤ 100 ∧ t.list.length ≤ 200
theorem ShortS.few {s : Seg} (h : ShortS s) : SegFew s := ⟨by have := h.terms; omega, by have := h.docs; omega, fun t ht => by have := h.each t ht; omega⟩
structure FoundSm (l : List Post) (k : Nat) : Prop where
  fine : Fine l
  len : l.length ≤ 200 * k
  places : ∀ q, q ∈ l → q.places.length ≤ 200 * k
theorem dec_small {l : List UInt8} (hl : l.length ≤ 200) : Fine ((postDec l).getD []) ∧ ((postDec l).getD []).length ≤ 200 ∧ ∀ q, q ∈ (postDec l).getD [] → q.places.length ≤ 200 := by
  cases e : postDec l with
  | none => exact ⟨Fine.nil_, Nat.zero_le _, fun q hq => by cases hq⟩
  | some p =>
    obtain ⟨h1, h2, h3, h4⟩ := postDec_some (by omega) e
    exact ⟨fine_of_right h1, by show p.length ≤ _; omega, fun q hq => by have := h4 q hq; omega⟩
theorem found_small {s : Seg} (hf : ShortS s) (field : Int) (p : List UInt8 → Bool) : ∀ k, k ≤ s.terms.length → FoundSm (foundL (s.terms.take k) field p) k
  | 0, _ => ⟨by rw [List.take_zero]; exact Fine.nil_, by simp [foundL], fun q hq => by rw [List.take_zero] at hq; cases hq⟩
  | k + 1, hk => by
    have ih := found_small hf field p k (by omega)
    rw [found_take (by omega)]
    split
    · obtain ⟨h1, h2, h3⟩ := dec_small (hf.each (ti s.terms k) (by rw [ti_get (by omega)]; exact List.getElem_mem _)).2
      refine ⟨orP_fine ih.fine h1, ?_, ?_⟩
      · have h4 := orP_len (foundL (s.terms.take k) field p) ((postDec (ti s.terms k).list).getD [])
        have h5 := ih.len
        omega
      · intro q hq
        have h4 := orP_places ih.fine h1 ih.places h3 q hq
        omega
    · exact ⟨ih.fine, by have := ih.len; omega, fun q hq => by have := ih.places q hq; omega⟩
theorem found_all {s : Seg} (hf : ShortS s) (field : Int) (p : List UInt8 → Bool) : (foundP s field p).length ≤ 1000000 ∧ ∀ q, q ∈ foundP s field p → q.places.length ≤ 1000000 := by
  unfold foundP
  split
  · have h := found_small hf field p s.terms.length (Nat.le_refl _)
    rw [List.take_length] at h
    have h1 := hf.terms
    have h2 := h.len
    exact ⟨by omega, fun q hq => by have := h.places q hq; omega⟩
  · exact ⟨Nat.zero_le _, fun q hq => by cases hq⟩
def ShortPost (s : Seg) (w : World) (e : Ending) (w' : World) : Prop := ∃ b, e = .returned (.bool b) ∧ (b = true → ShortS s) ∧ Below w.heap.size w w'
set_option maxRecDepth 100000 in
set_option maxHeartbeats 4000000 in
theorem short_any (A D : Option Addr) (n c m d : Nat) (s : Seg) (w : World) (h : SegIn w w.heap.size A n c D m d s) :
    Calls Tryz.prog 16 #[.agg #[.slice A n c, .slice D m d]] w (ShortPost s w) := by
  have H := Lib.hid h
  have HN := Lib.hid h.terms.len
  have HM := Lib.hid h.docs.len
  have hnc := h.nc
  have hcm := h.cm
  simp only [maxLen] at hcm
  clear h
  go_enter Tryz.func16, Tryz.ntmps16
  have hb1 : Below w.heap.size w (w.alloc (.cells #[.slice A n c, .slice D m d] 28)) := (Below.refl _ _).alloc (Nat.le_refl _) _
  have c1a : (w.alloc (.cells #[.slice A n c, .slice D m d] 28)).cell? ⟨w.heap.size, 0, none⟩ = some (.slice A n c) := by go_simp
  have c1b : (w.alloc (.cells #[.slice A n c, .slice D m d] 28)).cell? ⟨w.heap.size, 1, none⟩ = some (.slice D m d) := by go_simp
  go_wp2
  obtain ⟨W1, hW1⟩ : ∃ W1, w.alloc (.cells #[.slice A n c, .slice D m d] 28) = W1 := ⟨_, rfl⟩
  rw [hW1] at hb1 c1a c1b ⊢
  obtain ⟨g, hg⟩ : ∃ g, w.heap.size = g := ⟨_, rfl⟩
  rw [hg] at c1a c1b ⊢
  have HG := Lib.hid hg
  have HB1 := Lib.hid hb1
  have HT := Lib.hid (H.out.terms.below hb1)
  clear hW1 hg hb1
  go_loopw [3] (fun i wr => ∃ k : Nat, k ≤ n ∧ k ≤ 80 ∧ i = .int .i64 (k : Int) ∧ wr = W1 ∧ Hid (∀ j, j < k → (ti s.terms j).word.length ≤ 100 ∧ (ti s.terms j).list.length ≤ 200)) (fun i _ => n - (intOf i).toNat)
  case atStart => exact ⟨0, Nat.zero_le _, by omega, rfl, rfl, Lib.hid fun j h => absurd h (by omega)⟩
  case round =>
    obtain ⟨k, hk, hk80, rfl, rfl, HA⟩ := hrel
    by_cases hlt : k < n
    · have d1 : decide ((k : Int) < n) = true := decide_eq_true (by omega)
      have hk2 : (k : Int) < n := by omega
      by_cases h80 : k < 80
      · have d2 : decide ((k : Int) < 80) = true := decide_eq_true (by omega)
        obtain ⟨ad, rfl, hbl, c0, c1, c2, -⟩ := HT.out.at_ hlt
        have HT2 := Lib.hid (show (ti s.terms k).word.length ≤ 100 → (ti s.terms k).list.length ≤ 200 → ∀ j, j < k + 1 → (ti s.terms j).word.length ≤ 100 ∧ (ti s.terms j).list.length ≤ 200 from fun h1 h2 j hj => by
          by_cases e : j = k
          · subst e; exact ⟨h1, h2⟩
          · exact HA.out j (by omega))
        obtain ⟨t, ht⟩ : ∃ t, ti s.terms k = t := ⟨_, rfl⟩
        rw [ht] at c0 c1 c2 HT2
        obtain ⟨f, x, l⟩ := t
        dsimp only at c0 c1 c2 HT2
        have hxs := ba_size x
        have hls := ba_size l
        obtain ⟨xb, hxb⟩ : ∃ xb, ba x = xb := ⟨_, rfl⟩
        obtain ⟨lb, hlb⟩ : ∃ lb, ba l = lb := ⟨_, rfl⟩
        rw [hxb] at hxs c1
        rw [hlb] at hls c2
        by_cases hl : l.length ≤ 200
        · have hg1 : ¬ (200 : Int) < (lb.size : Int) := by omega
          by_cases hx : x.length ≤ 100
          · have hg2 : ¬ (100 : Int) < (xb.size : Int) := by omega
            clear ht hxb hlb hxs hls
            go_wp2
            go_roundw
            case rel => exact ⟨k + 1, by omega, by omega, by go_num, trivial, Lib.hid (HT2.out hx hl)⟩
            case measure => simp [intOf] <;> omega
          · have hg2 : (100 : Int) < (xb.size : Int) := by omega
            clear ht hxb hlb hxs hls
            go_wp2
            go_ret
            exact ⟨false, rfl, fun h => (by cases h), HB1.out⟩
        · have hg1 : (200 : Int) < (lb.size : Int) := by omega
          clear ht hxb hlb hxs hls
          go_wp2
          go_ret
          exact ⟨false, rfl, fun h => (by cases h), HB1.out⟩
      · have d2 : decide ((k : Int) < 80) = false := decide_eq_false (by omega)
        have d3 : decide ((n : Int) ≤ 60) = false := decide_eq_false (by omega)
        go_wp2
        go_ret
        exact ⟨false, rfl, fun h => (by cases h), HB1.out⟩
    · have d1 : decide ((k : Int) < n) = false := decide_eq_false (by omega)
      have HF := Lib.hid (show n ≤ 60 → m ≤ 60 → ShortS s from fun h1 h2 => ⟨by rw [HN.out]; exact h1, by rw [HM.out]; exact h2, fun t ht => by
        obtain ⟨j, hj, rfl⟩ := List.getElem_of_mem ht
        have := HA.out j (by rw [HN.out] at hj; omega)
        rw [ti_get hj] at this
        exact this⟩)
      by_cases hn60 : n ≤ 60
      · have d3 : decide ((n : Int) ≤ 60) = true := decide_eq_true (by omega)
        go_wp2
        go_ret
        exact ⟨decide ((m : Int) ≤ 60), rfl, fun h => HF.out hn60 (by have := of_decide_eq_true h; omega), HB1.out⟩
      · have d3 : decide ((n : Int) ≤ 60) = false := decide_eq_false (by omega)
        go_wp2
        go_ret
        exact ⟨false, rfl, fun h => (by cases h), HB1.out⟩
end Go.Proofs.YtfinpehbpcckaaaGreatDoor
