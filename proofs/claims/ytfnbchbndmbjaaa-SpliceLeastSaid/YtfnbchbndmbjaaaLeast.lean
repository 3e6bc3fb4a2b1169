/- SpliceLeast: the law's walk. -/
import Derived.Test.YtfnbchbndmbjaaaBack
namespace Go.Proofs.Ytfnbchbndmbjaaa
open Go.RowKit
set_option linter.unusedVariables false

theorem within_bool (A B : Option Addr) (n m c d : Nat) (r l : List Int) (w : World) (ha : Ints w w.heap.size A n r) (hb : Ints w w.heap.size B m l) (hn : n ≤ maxLen) (hm : m ≤ maxLen) (t : Bool) (ht : t = (wit r l l.length == r.length)) :
    Calls Try.prog 20 #[.slice A n c, .slice B m d] w fun e w' => e = .returned (.bool t) ∧ Below w.heap.size w w' := by
  subst ht
  refine (within_any A B n m c d r l w ha hb hn hm).mono ?_
  rintro e w' ⟨rfl, k, rfl⟩
  exact ⟨rfl, drewBelow (Below.refl _ _) k⟩
theorem keep_left (a b : List Int) : (keepS a b).Sublist a := by
  unfold keepS
  split
  · exact List.nil_sublist _
  · have := kept_old (align a b); rwa [align_old] at this
theorem keep_right (a b : List Int) : (keepS a b).Sublist b := by
  unfold keepS
  split
  · exact List.nil_sublist _
  · have := kept_new (align a b); rwa [align_new] at this
theorem keep_most (a b r : List Int) (ha : a.length ≤ 1024) (hb : b.length ≤ 1024) (h1 : r.Sublist a) (h2 : r.Sublist b) : r.length ≤ (keepS a b).length := by
  unfold keepS
  rw [if_neg (by omega), align_kept]
  exact lcs_most _ a b r (Nat.le_refl _) h1 h2

set_option maxRecDepth 100000 in
set_option maxHeartbeats 2000000 in
theorem least_any (A : Option Addr) (n c : Nat) (a : List Int) (B : Option Addr) (m d : Nat) (b : List Int) (C : Option Addr) (k e0 : Nat) (pl : List Int) (w : World) (ha : CameIn w A n c a) (hb : CameIn w B m d b) (hp : CameIn w C k e0 pl) :
    Calls Try.prog 6 #[.slice A n c, .slice B m d, .slice C k e0] w fun e w' => e = .returned (.bool true) ∧ Below w.heap.size w w' := by
  obtain ⟨hnc, hc63, ha⟩ := ha
  obtain ⟨hmd, hd63, hb⟩ := hb
  obtain ⟨hke, he63, hp⟩ := hp
  have HMX := Lib.hid (show n ≤ maxLen ∧ m ≤ maxLen ∧ c ≤ maxLen ∧ d ≤ maxLen by simp only [maxLen]; omega)
  have hk63 : k ≤ 17592186044416 := by omega
  have HA := Lib.hid ha
  have HB := Lib.hid hb
  have HP := Lib.hid hp
  have HN := Lib.hid ha.len
  have HM := Lib.hid hb.len
  clear ha hb hp hc63 hd63 he63
  obtain ⟨ok, hok⟩ : ∃ ok, ok = (decide (n ≤ 300) && decide (m ≤ 300)) := ⟨_, rfl⟩
  have HOK := Lib.hid hok; clear hok
  by_cases hout : ok = false ∨ 300 < k
  · have hway : ok = false ∨ (ok = true ∧ 300 < k) := by cases ok <;> simp_all
    clear hout
    rcases hway with rfl | ⟨rfl, hk⟩
    all_goals
      go_enter Try.func6, Try.ntmps6
      go_wp2_with fail
      refine (small_any _).mono ?_
      rintro e w1 ⟨rfl, hb1⟩
      go_wp2_with fail
      refine (few_bool' A B n m c d _ HMX.out.1 HMX.out.2.1 _ HOK.out).mono ?_
      rintro e w2 ⟨rfl, rfl⟩
      go_wp2
      go_ret
      exact ⟨rfl, hb1⟩
  · have hk : k ≤ 300 := by omega
    obtain rfl : ok = true := by cases ok <;> simp_all
    clear hout
    have hsm : n ≤ 300 ∧ m ≤ 300 := by simpa using HOK.out.symm
    have HSM := Lib.hid (show a.length ≤ 1024 ∧ b.length ≤ 1024 by rw [HN.out, HM.out]; omega)
    obtain ⟨t, ht⟩ : ∃ t, t = (wit (rowGo a (-1) pl) b b.length == (rowGo a (-1) pl).length) := ⟨_, rfl⟩
    have HT := Lib.hid ht; clear ht
    have hcmp : t = true → (rowGo a (-1) pl).length ≤ (keepS a b).length := fun h =>
      keep_most a b _ HSM.out.1 HSM.out.2 (rowGo_sublist a pl) ((wit_iff _ _).1 (by rw [← HT.out]; exact h))
    obtain ⟨R, hR⟩ : ∃ R, R = rowGo a (-1) pl := ⟨_, rfl⟩
    obtain ⟨K, hK⟩ : ∃ K, K = keepS a b := ⟨_, rfl⟩
    have k1 : true = (wit K a a.length == K.length) := by rw [hK]; exact ((wit_iff _ _).2 (keep_left a b)).symm
    have k2 : true = (wit K b b.length == K.length) := by rw [hK]; exact ((wit_iff _ _).2 (keep_right a b)).symm
    have HK1 := Lib.hid k1
    have HK2 := Lib.hid k2
    rw [← hR] at HT
    rw [← hR, ← hK] at hcmp
    have HK := Lib.hid hK
    have HR := Lib.hid hR
    obtain ⟨rl, hrl⟩ : ∃ rl, R.length = rl := ⟨_, rfl⟩
    obtain ⟨kl, hkl⟩ : ∃ kl, K.length = kl := ⟨_, rfl⟩
    rw [hrl, hkl] at hcmp
    have HRL := Lib.hid hrl
    have HKL := Lib.hid hkl
    clear hK hR k1 k2 hsm hrl hkl
    cases t with
    | true =>
      have hle : rl ≤ kl := hcmp rfl
      clear hcmp
      go_enter Try.func6, Try.ntmps6
      go_wp2_with fail
      refine (small_any _).mono ?_
      rintro e w1 ⟨rfl, hb1⟩
      have HB1 := Lib.hid hb1
      clear hb1
      go_wp2_with fail
      refine (few_bool' A B n m c d _ HMX.out.1 HMX.out.2.1 true HOK.out).mono ?_
      rintro e w2 ⟨rfl, rfl⟩
      go_wp2_with fail
      refine (keepS_any A B n m c d a b w1 ((HA.out.below HB1.out).more HB1.out.size) ((HB.out.below HB1.out).more HB1.out.size) hnc hmd HMX.out.2.2.1 HMX.out.2.2.2).mono ?_
      rw [← HK.out]
      rintro e w2 h2
      obtain ⟨A2, c2, rfl, hc2, hc2m, hi2, hb2⟩ := IntOut.of h2
      rw [HKL.out] at hi2 hc2 ⊢
      have HB2 := Lib.hid (HB1.out.trans (hb2.mono HB1.out.size))
      have HI2 := Lib.hid hi2
      clear h2 hb2 hi2
      go_wp2_with fail
      refine (row_any A C n k c e0 a pl w2 ((HA.out.below HB2.out).more HB2.out.size) ((HP.out.below HB2.out).more HB2.out.size) HMX.out.1 hk).mono ?_
      rw [← HR.out]
      rintro e w3 h3
      obtain ⟨A3, c3, rfl, hc3, hc3m, hi3, hb3⟩ := IntOut.of h3
      rw [HRL.out] at hi3 hc3 ⊢
      have HB3 := Lib.hid (HB2.out.trans (hb3.mono HB2.out.size))
      have HI3 := Lib.hid hi3
      have HI2' := Lib.hid ((HI2.out.below hb3).more hb3.size)
      clear h3 hb3 hi3
      go_wp2_with fail
      refine (within_bool A2 A kl n c2 c K a w3 HI2'.out ((HA.out.below HB3.out).more HB3.out.size) (by omega) HMX.out.1 true HK1.out).mono ?_
      rintro e w4 ⟨rfl, hb4⟩
      have HB4 := Lib.hid (HB3.out.trans (hb4.mono HB3.out.size))
      have HI2'' := Lib.hid ((HI2'.out.below hb4).more hb4.size)
      have HI3' := Lib.hid ((HI3.out.below hb4).more hb4.size)
      clear hb4
      go_wp2_with fail
      refine (within_bool A2 B kl m c2 d K b w4 HI2''.out ((HB.out.below HB4.out).more HB4.out.size) (by omega) HMX.out.2.1 true HK2.out).mono ?_
      rintro e w5 ⟨rfl, hb5⟩
      have HB5 := Lib.hid (HB4.out.trans (hb5.mono HB4.out.size))
      have HI3'' := Lib.hid ((HI3'.out.below hb5).more hb5.size)
      clear hb5
      go_wp2_with fail
      refine (within_bool A3 B rl m c3 d R b w5 HI3''.out ((HB.out.below HB5.out).more HB5.out.size) (by omega) HMX.out.2.1 _ HT.out).mono ?_
      rintro e w6 ⟨rfl, hb6⟩
      have HB6 := Lib.hid (HB5.out.trans (hb6.mono HB5.out.size))
      clear hb6
      go_wp2
      go_ret
      exact ⟨rfl, HB6.out⟩
    | false =>
      clear hcmp
      go_enter Try.func6, Try.ntmps6
      go_wp2_with fail
      refine (small_any _).mono ?_
      rintro e w1 ⟨rfl, hb1⟩
      have HB1 := Lib.hid hb1
      clear hb1
      go_wp2_with fail
      refine (few_bool' A B n m c d _ HMX.out.1 HMX.out.2.1 true HOK.out).mono ?_
      rintro e w2 ⟨rfl, rfl⟩
      go_wp2_with fail
      refine (keepS_any A B n m c d a b w1 ((HA.out.below HB1.out).more HB1.out.size) ((HB.out.below HB1.out).more HB1.out.size) hnc hmd HMX.out.2.2.1 HMX.out.2.2.2).mono ?_
      rw [← HK.out]
      rintro e w2 h2
      obtain ⟨A2, c2, rfl, hc2, hc2m, hi2, hb2⟩ := IntOut.of h2
      rw [HKL.out] at hi2 hc2 ⊢
      have HB2 := Lib.hid (HB1.out.trans (hb2.mono HB1.out.size))
      have HI2 := Lib.hid hi2
      clear h2 hb2 hi2
      go_wp2_with fail
      refine (row_any A C n k c e0 a pl w2 ((HA.out.below HB2.out).more HB2.out.size) ((HP.out.below HB2.out).more HB2.out.size) HMX.out.1 hk).mono ?_
      rw [← HR.out]
      rintro e w3 h3
      obtain ⟨A3, c3, rfl, hc3, hc3m, hi3, hb3⟩ := IntOut.of h3
      rw [HRL.out] at hi3 hc3 ⊢
      have HB3 := Lib.hid (HB2.out.trans (hb3.mono HB2.out.size))
      have HI3 := Lib.hid hi3
      have HI2' := Lib.hid ((HI2.out.below hb3).more hb3.size)
      clear h3 hb3 hi3
      go_wp2_with fail
      refine (within_bool A2 A kl n c2 c K a w3 HI2'.out ((HA.out.below HB3.out).more HB3.out.size) (by omega) HMX.out.1 true HK1.out).mono ?_
      rintro e w4 ⟨rfl, hb4⟩
      have HB4 := Lib.hid (HB3.out.trans (hb4.mono HB3.out.size))
      have HI2'' := Lib.hid ((HI2'.out.below hb4).more hb4.size)
      have HI3' := Lib.hid ((HI3.out.below hb4).more hb4.size)
      clear hb4
      go_wp2_with fail
      refine (within_bool A2 B kl m c2 d K b w4 HI2''.out ((HB.out.below HB4.out).more HB4.out.size) (by omega) HMX.out.2.1 true HK2.out).mono ?_
      rintro e w5 ⟨rfl, hb5⟩
      have HB5 := Lib.hid (HB4.out.trans (hb5.mono HB4.out.size))
      have HI3'' := Lib.hid ((HI3'.out.below hb5).more hb5.size)
      clear hb5
      go_wp2_with fail
      refine (within_bool A3 B rl m c3 d R b w5 HI3''.out ((HB.out.below HB5.out).more HB5.out.size) (by omega) HMX.out.2.1 _ HT.out).mono ?_
      rintro e w6 ⟨rfl, hb6⟩
      have HB6 := Lib.hid (HB5.out.trans (hb6.mono HB5.out.size))
      clear hb6
      go_wp2
      go_ret
      exact ⟨rfl, HB6.out⟩
end Go.Proofs.Ytfnbchbndmbjaaa
