/- SpliceBack: the law's walk. -/
import Derived.Test.YtfnbchbndmbjaaaExamples
import Derived.Test.YtfnbchbndmbjaaaCame
import Derived.Test.YtfnbchbndmbjaaaPlain3
namespace Go.Proofs.Ytfnbchbndmbjaaa
open Go.RowKit
set_option linter.unusedVariables false

theorem few_bool' (A B : Option Addr) (n m c d : Nat) (w : World) (hn : n ≤ maxLen) (hm : m ≤ maxLen) (ok : Bool) (hok : ok = (decide (n ≤ 300) && decide (m ≤ 300))) :
    Calls Try.prog 10 #[.slice A n c, .slice B m d] w fun e w' => e = .returned (.bool ok) ∧ w = w' := by
  subst hok; exact few_any A B n m c d w hn hm

/-- Apply of the differences, as the laws call it. -/
theorem apply_diff (A D : Option Addr) (n c k e0 : Nat) (a b : List Int) (w : World) (ha : Ints w w.heap.size A n a) (hs : Spis w w.heap.size D k ((diffS a b).map Spl.int)) (hn : a.length ≤ 300) (hm : b.length ≤ 300) :
    Calls Try.prog 17 #[.slice A n c, .slice D k e0] w fun e w' => ∃ v, e = .returned (.tuple #[v, .bool true]) ∧ OwnInts w' w.heap.size v b ∧ Below w.heap.size w w' := by
  have hk := hs.1
  have hl := diffS_len a b
  have hnl := ha.len
  rw [List.length_map] at hk
  refine (apply_any A D n k c e0 a _ w ha hs (by omega) (by omega) (fun s hs => ?_)).mono ?_
  · obtain ⟨t, ht, rfl⟩ := List.mem_map.1 hs
    have h1 := (diffS_bound a b t ht).2.2
    show t.add.length ≤ _
    omega
  · have h := (diff_small_laws a b (by omega) (by omega)).1
    rw [ints] at h
    rw [h]
    rintro e w' ⟨v, rfl, h1, h2⟩
    exact ⟨v, rfl, h1, h2⟩

set_option maxRecDepth 100000 in
set_option maxHeartbeats 2000000 in
theorem back_any (A : Option Addr) (n c : Nat) (a : List Int) (B : Option Addr) (m d : Nat) (b : List Int) (w : World) (ha : CameIn w A n c a) (hb : CameIn w B m d b) :
    Calls Try.prog 5 #[.slice A n c, .slice B m d] w fun e w' => e = .returned (.bool true) ∧ Below w.heap.size w w' := by
  obtain ⟨hnc, hc63, ha⟩ := ha
  obtain ⟨hmd, hd63, hb⟩ := hb
  have HMX := Lib.hid (show n ≤ maxLen ∧ m ≤ maxLen by simp only [maxLen]; omega)
  have HA := Lib.hid ha
  have HB := Lib.hid hb
  have HN := Lib.hid ha.len
  have HM := Lib.hid hb.len
  have HCD := Lib.hid (show c * 8 ≤ 140737488355328 ∧ d * 8 ≤ 140737488355328 by omega)
  clear ha hb hc63 hd63
  obtain ⟨ok, hok⟩ : ∃ ok, ok = (decide (n ≤ 300) && decide (m ≤ 300)) := ⟨_, rfl⟩
  have HOK := Lib.hid hok; clear hok
  cases ok with
  | false =>
    go_enter Try.func5, Try.ntmps5
    go_wp2_with fail
    refine (small_any _).mono ?_
    rintro e w1 ⟨rfl, hb1⟩
    go_wp2_with fail
    refine (few_bool' A B n m c d _ HMX.out.1 HMX.out.2 false HOK.out).mono ?_
    rintro e w2 ⟨rfl, rfl⟩
    go_wp2
    go_ret
    exact ⟨rfl, hb1⟩
  | true =>
    have hsm : n ≤ 300 ∧ m ≤ 300 := by simpa using HOK.out.symm
    have HSM := Lib.hid (show a.length ≤ 300 ∧ b.length ≤ 300 by rw [HN.out, HM.out]; exact hsm)
    go_enter Try.func5, Try.ntmps5
    go_wp2_with fail
    refine (small_any _).mono ?_
    rintro e w1 ⟨rfl, hb1⟩
    have HB1 := Lib.hid hb1
    clear hb1
    go_wp2_with fail
    refine (few_bool' A B n m c d _ HMX.out.1 HMX.out.2 true HOK.out).mono ?_
    rintro e w2 ⟨rfl, rfl⟩
    go_wp2_with fail
    refine (diff_any A B n m c d a b w1 ((HA.out.below HB1.out).more HB1.out.size) ((HB.out.below HB1.out).more HB1.out.size) hnc hmd HCD.out.1 HCD.out.2).mono ?_
    rintro e w2 h2
    obtain ⟨A2, c2, rfl, _, _, hi2, hb2⟩ := SplOut.of (by have := HSM.out; omega) h2
    have HB2 := Lib.hid (HB1.out.trans (hb2.mono HB1.out.size))
    have HI2 := Lib.hid hi2
    clear h2 hb2 hi2
    go_wp2_with fail
    refine (apply_diff A A2 n c _ c2 a b w2 ((HA.out.below HB2.out).more HB2.out.size) HI2.out HSM.out.1 HSM.out.2).mono ?_
    rintro e w3 ⟨v3, rfl, hown3, hb3⟩
    have HB3 := Lib.hid (HB2.out.trans (hb3.mono HB2.out.size))
    obtain ⟨A3, c3, rfl, hc3, hc3m, hi3⟩ := hown3.ints
    have HI3 := Lib.hid hi3
    clear hown3 hb3 hi3
    go_wp2_with fail
    refine (diff_any B A m n d c b a w3 ((HB.out.below HB3.out).more HB3.out.size) ((HA.out.below HB3.out).more HB3.out.size) hmd hnc HCD.out.2 HCD.out.1).mono ?_
    rintro e w4 h4
    obtain ⟨A4, c4, rfl, _, _, hi4, hb4⟩ := SplOut.of (by have := HSM.out; omega) h4
    have HB4 := Lib.hid (HB3.out.trans (hb4.mono HB3.out.size))
    have HI4 := Lib.hid hi4
    have HI3' := Lib.hid ((HI3.out.below hb4).more hb4.size)
    clear h4 hb4 hi4
    go_wp2_with fail
    refine (apply_diff B A4 m d _ c4 b a w4 ((HB.out.below HB4.out).more HB4.out.size) HI4.out HSM.out.2 HSM.out.1).mono ?_
    rintro e w5 ⟨v5, rfl, hown5, hb5⟩
    have HB5 := Lib.hid (HB4.out.trans (hb5.mono HB4.out.size))
    have HI3'' := Lib.hid ((HI3'.out.below hb5).more hb5.size)
    obtain ⟨A5, c5, rfl, hc5, hc5m, hi5⟩ := hown5.ints
    have HI5 := Lib.hid hi5
    clear hown5 hb5 hi5
    go_wp2_with fail
    refine (same_any A3 B _ m c3 d b b w5 HI3''.out ((HB.out.below HB5.out).more HB5.out.size) (by omega)).mono ?_
    rintro e w6 ⟨rfl, k6, hw6⟩
    have HB6 := Lib.hid (show Below w.heap.size w w6 by rw [hw6]; exact drewBelow HB5.out k6)
    have HI5' := Lib.hid (show Ints w6 w6.heap.size A5 a.length a by rw [hw6]; exact HI5.out.drewN k6)
    clear hw6
    rw [show decide (b = b) = true by simp]
    go_wp2_with fail
    refine (same_any A5 A _ n c5 c a a w6 HI5'.out ((HA.out.below HB6.out).more HB6.out.size) (by omega)).mono ?_
    rintro e w7 ⟨rfl, k7, hw7⟩
    have HB7 := Lib.hid (show Below w.heap.size w w7 by rw [hw7]; exact drewBelow HB6.out k7)
    clear hw7
    rw [show decide (a = a) = true by simp]
    go_wp2
    go_ret
    exact ⟨rfl, HB7.out⟩
end Go.Proofs.Ytfnbchbndmbjaaa
