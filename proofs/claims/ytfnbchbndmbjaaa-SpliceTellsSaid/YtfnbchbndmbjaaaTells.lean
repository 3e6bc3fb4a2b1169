/- SpliceTells: the law's walk. -/
import Derived.Test.YtfnbchbndmbjaaaExamples
import Derived.Test.YtfnbchbndmbjaaaCame
namespace Go.Proofs.Ytfnbchbndmbjaaa
open Go.RowKit

theorem few_bool (A B : Option Addr) (n m c d : Nat) (w : World) (hn : n ≤ maxLen) (hm : m ≤ maxLen) (ok : Bool) (hok : ok = (decide (n ≤ 300) && decide (m ≤ 300))) :
    Calls Try.prog 10 #[.slice A n c, .slice B m d] w fun e w' => e = .returned (.bool ok) ∧ w = w' := by
  subst hok; exact few_any A B n m c d w hn hm

set_option maxRecDepth 100000 in
set_option maxHeartbeats 2000000 in
theorem tells_any (A B : Option Addr) (n m c d : Nat) (a b : List Int) (w : World) (ha : Ints w w.heap.size A n a) (hb : Ints w w.heap.size B m b) (hnc : n ≤ c) (hmd : m ≤ d) (hc63 : c * 8 ≤ 140737488355328) (hd63 : d * 8 ≤ 140737488355328) :
    Calls Try.prog 3 #[.slice A n c, .slice B m d] w fun e w' => e = .returned (.bool true) ∧ Below w.heap.size w w' := by
  have hmx : c ≤ maxLen ∧ d ≤ maxLen := by simp only [maxLen]; omega
  have HMX := Lib.hid hmx
  have HA := Lib.hid ha
  have HB := Lib.hid hb
  have HN := Lib.hid ha.len
  have HM := Lib.hid hb.len
  have HCD := Lib.hid (And.intro hc63 hd63)
  have hn1 : n ≤ 17592186044416 := by omega
  have hm1 : m ≤ 17592186044416 := by omega
  clear ha hb hmx hc63 hd63
  obtain ⟨ok, hok⟩ : ∃ ok, ok = (decide (n ≤ 300) && decide (m ≤ 300)) := ⟨_, rfl⟩
  have HOK := Lib.hid hok; clear hok
  by_cases hcase : ok = false ∧ n ≤ 1024 ∧ m ≤ 1024
  · obtain ⟨rfl, h1, h2⟩ := hcase
    go_enter Try.func3, Try.ntmps3
    go_wp2_with fail
    refine (small_any _).mono ?_
    rintro e w1 ⟨rfl, hb1⟩
    go_wp2_with fail
    refine (few_bool A B n m c d _ (by have := HMX.out; omega) (by have := HMX.out; omega) false HOK.out).mono ?_
    rintro e w2 ⟨rfl, rfl⟩
    go_wp2
    go_ret
    exact ⟨rfl, hb1⟩
  · have hway : ok = true ∨ (ok = false ∧ 1024 < n) ∨ (ok = false ∧ n ≤ 1024 ∧ 1024 < m) := by
      cases ok with
      | true => exact .inl rfl
      | false =>
        by_cases h : 1024 < n
        · exact .inr (.inl ⟨rfl, h⟩)
        · exact .inr (.inr ⟨rfl, by omega, by have : ¬ (m ≤ 1024) := fun h2 => hcase ⟨rfl, by omega, h2⟩; omega⟩)
    clear hcase
    rcases hway with rfl | ⟨rfl, hx⟩ | ⟨rfl, hx, hy⟩
    all_goals
      go_enter Try.func3, Try.ntmps3
      go_wp2_with fail
      refine (small_any _).mono ?_
      rintro e w1 ⟨rfl, hb1⟩
      have HB1 := Lib.hid hb1
      clear hb1
      go_wp2_with fail
      refine (few_bool A B n m c d _ (by have := HMX.out; omega) (by have := HMX.out; omega) _ HOK.out).mono ?_
      rintro e w2 ⟨rfl, rfl⟩
      go_wp2_with fail
      refine (keepS_any A B n m c d a b w1 ((HA.out.below HB1.out).more HB1.out.size) ((HB.out.below HB1.out).more HB1.out.size) hnc hmd HMX.out.1 HMX.out.2).mono ?_
      rintro e w2 h2
      obtain ⟨A2, c2, rfl, _, _, hi2, hb2⟩ := IntOut.of h2
      have HB2 := Lib.hid (HB1.out.trans (hb2.mono HB1.out.size))
      have HI2 := Lib.hid hi2
      clear h2 hb2 hi2
      go_wp2_with fail
      refine (rkeepS_any A B n m c d a b w2 ((HA.out.below HB2.out).more HB2.out.size) ((HB.out.below HB2.out).more HB2.out.size) (by have := HMX.out; omega) (by have := HMX.out; omega)).mono ?_
      rintro e w3 h3
      obtain ⟨A3, c3, rfl, _, _, hi3, hb3⟩ := IntOut.of h3
      have HB3 := Lib.hid (HB2.out.trans (hb3.mono HB2.out.size))
      have HI3 := Lib.hid hi3
      have HI2' := Lib.hid ((HI2.out.below hb3).more hb3.size)
      clear h3 hb3 hi3
      go_wp2_with fail
      refine (same_any A2 A3 _ _ c2 c3 (keepS a b) (keepS a b) w3 HI2'.out HI3.out (by omega)).mono ?_
      rintro e w4 ⟨rfl, k4, hw4⟩
      have HB4 := Lib.hid (show Below w.heap.size w w4 by rw [hw4]; exact drewBelow HB3.out k4)
      clear hw4
      rw [show decide (keepS a b = keepS a b) = true by simp]
      go_wp2_with fail
      refine (diff_any A B n m c d a b w4 ((HA.out.below HB4.out).more HB4.out.size) ((HB.out.below HB4.out).more HB4.out.size) hnc hmd HCD.out.1 HCD.out.2).mono ?_
      rintro e w5 h5
      obtain ⟨A5, c5, rfl, _, _, hi5, hb5⟩ := SplOut.of (by rw [HN.out, HM.out]; omega) h5
      have HB5 := Lib.hid (HB4.out.trans (hb5.mono HB4.out.size))
      have HI5 := Lib.hid hi5
      clear h5 hb5 hi5
      go_wp2_with fail
      refine (rdiff_any A B n m c d a b w5 ((HA.out.below HB5.out).more HB5.out.size) ((HB.out.below HB5.out).more HB5.out.size) (by have := HMX.out; omega) (by have := HCD.out; omega)).mono ?_
      rintro e w6 h6
      obtain ⟨A6, c6, rfl, _, _, hi6, hb6⟩ := SplOut.of (by rw [HN.out, HM.out]; omega) h6
      have HB6 := Lib.hid (HB5.out.trans (hb6.mono HB5.out.size))
      have HI6 := Lib.hid hi6
      have HI5' := Lib.hid ((HI5.out.below hb6).more hb6.size)
      clear h6 hb6 hi6
      go_wp2_with fail
      refine (sameAll_any A5 A6 _ _ c5 c6 _ _ w6 HI5'.out HI6.out (by omega)).mono ?_
      rintro e w7 ⟨rfl, k7, hw7⟩
      have HB7 := Lib.hid (show Below w.heap.size w w7 by rw [hw7]; exact drewBelow HB6.out k7)
      clear hw7
      rw [show decide (spts (List.map Spl.int (diffS a b)) = spts (List.map Spl.int (diffS a b))) = true by simp]
      go_wp2
      go_ret
      exact ⟨rfl, HB7.out⟩

theorem tells_law (A : Option Addr) (n c : Nat) (a : List Int) (B : Option Addr) (m d : Nat) (b : List Int) (w : World) (ha : CameIn w A n c a) (hb : CameIn w B m d b) :
    Calls Try.prog 3 #[.slice A n c, .slice B m d] w fun e w' => e = .returned (.bool true) ∧ Below w.heap.size w w' :=
  tells_any A B n m c d a b w ha.2.2 hb.2.2 ha.1 hb.1 (by have := ha.2.1; omega) (by have := hb.2.1; omega)
end Go.Proofs.Ytfnbchbndmbjaaa
