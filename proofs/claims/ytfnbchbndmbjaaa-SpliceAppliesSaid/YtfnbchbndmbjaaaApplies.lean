/- SpliceApplies: the law's walk. -/
import Derived.Test.YtfnbchbndmbjaaaExamples
import Derived.Test.YtfnbchbndmbjaaaCameS
namespace Go.Proofs.Ytfnbchbndmbjaaa
open Go.RowKit
set_option linter.unusedVariables false

set_option maxRecDepth 100000 in
set_option maxHeartbeats 2000000 in
theorem applies_any (A : Option Addr) (n c : Nat) (l : List Int) (B : Option Addr) (m d : Nat) (ss : List Spi) (w : World) (ha : CameIn w A n c l) (hb : CameSpl w B m d ss) :
    Calls Try.prog 4 #[.slice A n c, .slice B m d] w fun e w' => e = .returned (.bool true) ∧ Below w.heap.size w w' := by
  obtain ⟨hnc, hc63, ha⟩ := ha
  obtain ⟨hmd, hd63, hb⟩ := hb
  have HMX := Lib.hid (show n ≤ 17592186044416 ∧ m ≤ maxLen by omega)
  have hm63 : m ≤ 9223372036854775807 := by have := HMX.out.2; simp only [maxLen] at this; omega
  have hn63 : n ≤ 17592186044416 := HMX.out.1
  have HA := Lib.hid ha
  have HB := Lib.hid hb
  have HM := Lib.hid hb.1
  clear ha hb hc63 hd63
  by_cases hout : 30 < m ∨ 300 < n
  · have hway : 30 < m ∨ (m ≤ 30 ∧ 300 < n) := by omega
    clear hout
    rcases hway with hx | ⟨hx, hy⟩
    all_goals
      go_enter Try.func4, Try.ntmps4
      go_wp2_with fail
      refine (small_any _).mono ?_
      rintro e w1 ⟨rfl, hb1⟩
      go_wp2
      go_ret
      exact ⟨rfl, hb1⟩
  · have hm30 : m ≤ 30 := by omega
    have hn300 : n ≤ 300 := by omega
    clear hout
    go_enter Try.func4, Try.ntmps4
    go_wp2_with fail
    refine (small_any _).mono ?_
    rintro e w1 ⟨rfl, hb1⟩
    have HB1 := Lib.hid hb1
    have HS1 := Lib.hid ((HB.out.below hb1).more hb1.size)
    clear hb1
    go_wp2
    go_loop [6] (fun i => ∃ j : Nat, j ≤ m ∧ i = .int .i64 j ∧ Hid (∀ i s, i < j → ss[i]? = some s → s.add.length ≤ 300)) (fun i => m - (intOf i).toNat)
    case atStart => exact ⟨0, Nat.zero_le _, rfl, fun i s h => absurd h (by omega)⟩
    case round =>
      obtain ⟨j, hj, rfl, hall⟩ := hrel
      by_cases hlt : j < m
      · obtain ⟨ad, s, X, x, cx, rfl, _, hs, _, _, a0, a1, a2, hx1, hx2, hxi⟩ := HS1.out.2 j hlt
        have HSJ := Lib.hid hs
        have HXL := Lib.hid hxi.len
        rw [← add_add'] at a2
        replace a2 : w1.cell? ⟨(ad.add (j * 3)).block, (ad.add (j * 3)).off + 2, none⟩ = _ := a2
        have hx63 : x ≤ 9223372036854775807 := by simp only [maxLen] at hx2; omega
        clear hs a0 a1 hx1 hx2 hxi
        by_cases hx : x ≤ 300
        · go_wp2
          go_round
          case rel => exact ⟨j + 1, by omega, by go_num, fun i s' hi hs' => by
            by_cases e : i = j
            · subst e
              have := HSJ.out.symm.trans hs'
              injection this with this
              subst this
              rw [HXL.out]; exact hx
            · exact hall.out i s' (by omega) hs'⟩
          case measure => simp [intOf] <;> omega
        · go_wp2
          go_ret
          exact ⟨rfl, HB1.out⟩
      · obtain rfl : j = m := by omega
        have hadd : ∀ s ∈ ss, s.add.length ≤ 1048576 := fun s hs => by
          obtain ⟨i, hi, e⟩ := List.getElem_of_mem hs
          have := hall.out i s (by rw [HM.out]; exact hi) (by rw [List.getElem?_eq_getElem hi, e])
          omega
        have HADD := Lib.hid hadd
        clear hadd hall
        obtain ⟨r, hr⟩ : ∃ r, app l ss = r := ⟨_, rfl⟩
        have hc1 := apply_any A B n j c d l ss w1 ((HA.out.below HB1.out).more HB1.out.size) HS1.out (by omega) (by omega) HADD.out
        have hc2 := fun w2 (h2 : Below w.heap.size w w2) => rapply_any A B n j c d l ss w2 ((HA.out.below h2).more h2.size) ((HB.out.below h2).more h2.size) (by omega) (by omega) HADD.out
        rw [hr] at hc1
        simp only [hr] at hc2
        have HC1 := Lib.hid hc1
        have HC2 := Lib.hid hc2
        clear hc1 hc2 hr
        cases r with
        | none =>
          go_wp2_with fail
          refine HC1.out.mono ?_
          rintro e w2 ⟨v2, rfl, hown2, hb2⟩
          have HB2 := Lib.hid (HB1.out.trans (hb2.mono HB1.out.size))
          obtain ⟨A2, c2, rfl, _, _, hi2⟩ := hown2.ints
          have HI2 := Lib.hid hi2
          clear hown2 hb2 hi2
          go_wp2_with fail
          refine (HC2.out _ HB2.out).mono ?_
          rintro e w3 ⟨v3, rfl, hown3, hb3⟩
          have HB3 := Lib.hid (HB2.out.trans (hb3.mono HB2.out.size))
          obtain ⟨A3, c3, rfl, _, _, hi3⟩ := hown3.ints
          have HI3 := Lib.hid hi3
          have HI2' := Lib.hid ((HI2.out.below hb3).more hb3.size)
          clear hown3 hb3 hi3
          go_wp2_with fail
          refine (same_any A2 A3 _ _ c2 c3 _ _ w3 HI2'.out HI3.out (by simp)).mono ?_
          rintro e w4 ⟨rfl, k4, hw4⟩
          have HB4 := Lib.hid (show Below w.heap.size w w4 by rw [hw4]; exact drewBelow HB3.out k4)
          clear hw4
          simp only [decide_true]
          go_wp2
          go_ret
          exact ⟨rfl, HB4.out⟩
        | some r =>
          go_wp2_with fail
          refine HC1.out.mono ?_
          rintro e w2 ⟨v2, rfl, hown2, hb2⟩
          have HB2 := Lib.hid (HB1.out.trans (hb2.mono HB1.out.size))
          obtain ⟨A2, c2, rfl, hl2, hl2m, hi2⟩ := hown2.ints
          have HI2 := Lib.hid hi2
          clear hown2 hb2 hi2
          go_wp2_with fail
          refine (HC2.out _ HB2.out).mono ?_
          rintro e w3 ⟨v3, rfl, hown3, hb3⟩
          have HB3 := Lib.hid (HB2.out.trans (hb3.mono HB2.out.size))
          obtain ⟨A3, c3, rfl, _, _, hi3⟩ := hown3.ints
          have HI3 := Lib.hid hi3
          have HI2' := Lib.hid ((HI2.out.below hb3).more hb3.size)
          clear hown3 hb3 hi3
          go_wp2_with fail
          refine (same_any A2 A3 _ _ c2 c3 _ _ w3 HI2'.out HI3.out (by omega)).mono ?_
          rintro e w4 ⟨rfl, k4, hw4⟩
          have HB4 := Lib.hid (show Below w.heap.size w w4 by rw [hw4]; exact drewBelow HB3.out k4)
          clear hw4
          simp only [decide_true]
          go_wp2
          go_ret
          exact ⟨rfl, HB4.out⟩
end Go.Proofs.Ytfnbchbndmbjaaa
