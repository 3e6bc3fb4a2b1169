/- Reference 07: Days. Reference 07: Civil, at a day that has a date. Layer 7: div, count. A row of bytes of the call's own: append of one byte, and its string. The reference of layer 37: small. Layer 1: the contract of Parse. The reference of layer 37: quoted. -/
import Derived.BigQuiet
import Derived.WalkSmall
import Derived.Laws.IdiomStrings
import Derived.Laws.BytesArg
import Derived.Lib.UnsafeStr
import Derived.Test.YtomcdhmcjndioaaGreatDoorShelfP
import Derived.Lib.OthersKept
import Derived.Deep.QuietTactic
import Derived.IntWalk
import Derived.Test.YtomcdhmcjndioaaGreatDoorM04
import Derived.Test.YtomcdhmcjndioaaGreatDoorM01
section
namespace Go.Proofs.YtomcdhmcjndioaaGreatDoor
open Go.RowKit
set_option linter.unusedVariables false

theorem date_no {y m d : Nat} (h : ¬ (1 ≤ y ∧ y ≤ 9999 ∧ 1 ≤ m ∧ m ≤ 12 ∧ 1 ≤ d ∧ d ≤ monQ y m)) : daysQ y m d = 0 := by
  unfold daysQ
  rw [if_neg]
  intro e
  unfold dateB at e
  simp only [Bool.and_eq_true, decide_eq_true_eq] at e
  exact h ⟨e.1.1.1.1.1, e.1.1.1.1.2, e.1.1.1.2, e.1.1.2, e.1.2, e.2⟩
theorem date_yes {y m d : Nat} (h : 1 ≤ y ∧ y ≤ 9999 ∧ 1 ≤ m ∧ m ≤ 12 ∧ 1 ≤ d ∧ d ≤ monQ y m) : daysQ y m d = dayQ y m d := by
  unfold daysQ
  rw [if_pos]
  unfold dateB
  simp only [Bool.and_eq_true, decide_eq_true_eq]
  omega
def DayPost (w : World) (v : Int) (e : Ending) (w' : World) : Prop := e = .returned (.int .i64 v) ∧ Below w.heap.size w w'
theorem cum_step (y k : Nat) (hk : 1 ≤ k) : cumQ y (k + 1) = cumQ y k + monQ y k := by
  obtain ⟨j, rfl⟩ : ∃ j, k = j + 1 := ⟨k - 1, by omega⟩
  rfl
set_option maxRecDepth 100000 in
set_option maxHeartbeats 4000000 in
theorem rdays_any (y m d : Nat) (hy : y ≤ 100000) (hm : m ≤ 100000) (hd : d ≤ 100000) (w : World) : Calls Tryz.prog 133 #[.int .i64 (y : Int), .int .i64 (m : Int), .int .i64 (d : Int)] w (DayPost w (daysQ y m d)) := by
  unfold DayPost
  go_enter Tryz.func133, Tryz.ntmps133
  have HNO := Lib.hid (date_no (y := y) (m := m) (d := d))
  have HYES := Lib.hid (date_yes (y := y) (m := m) (d := d))
  by_cases h1 : 1 ≤ y ∧ y ≤ 9999 ∧ 1 ≤ m ∧ m ≤ 12 ∧ 1 ≤ d
  · obtain ⟨a1, a2, a3, a4, a5⟩ := h1
    have g1 : decide ((y : Int) < 1) = false := decide_eq_false (by omega)
    have g2 : decide ((9999 : Int) < (y : Int)) = false := decide_eq_false (by omega)
    have g3 : decide ((m : Int) < 1) = false := decide_eq_false (by omega)
    have g4 : decide ((12 : Int) < (m : Int)) = false := decide_eq_false (by omega)
    have g5 : decide ((d : Int) < 1) = false := decide_eq_false (by omega)
    have HMO := Lib.hid (fun W k (h1 : 1 ≤ k) (h2 : k ≤ 12) => rmonth_any y k a1 hy h1 h2 W)
    have HYE := Lib.hid (fun W => ryear_any y a1 hy W)
    go_wp2_with fail
    refine (HMO.out w m a3 a4).mono ?_
    rintro e w1 ⟨rfl, hb1⟩
    have HB1 := Lib.hid hb1
    clear hb1
    by_cases h6 : d ≤ monQ y m
    · have HV := Lib.hid (HYES.out ⟨a1, a2, a3, a4, a5, h6⟩)
      have HDY := Lib.hid (day_year y m d)
      have g6 : decide (monQ y m < d) = false := decide_eq_false (by omega)
      obtain ⟨M, hM⟩ : ∃ M, monQ y m = M := ⟨_, rfl⟩
      rw [hM] at g6 ⊢
      clear hM h6 HNO HYES
      go_wp2_with fail
      refine (HYE.out w1).mono ?_
      rintro e w2 ⟨rfl, hb2⟩
      have HB2 := Lib.hid (HB1.out.trans (hb2.mono HB1.out.size))
      clear hb2 HB1 HYE
      obtain ⟨Y, hY⟩ : ∃ Y, yearQ y = Y := ⟨_, rfl⟩
      have HY := Lib.hid hY
      have hY1 : -800000 ≤ Y ∧ Y ≤ 3000000 := by
        rw [← hY]
        have e1 := year_mono (a := 1) (b := y) (by omega)
        have e2 := year_mono (a := (y : Int)) (b := 10000) (by omega)
        have z1 : yearQ 1 = -719162 := by decide
        have z2 : yearQ 10000 = 2932897 := by decide
        omega
      rw [hY]
      clear hY
      go_wp2
      go_loopw [7, 8] (fun a i wr => ∃ k : Nat, 1 ≤ k ∧ k ≤ m ∧ i = .int .i64 (k : Int) ∧ a = .int .i64 (Y + (d : Int) - 1 + (cumQ y k : Nat)) ∧ Hid (Below w.heap.size w wr)) (fun _ i _ => m - (intOf i).toNat)
      case atStart => exact ⟨1, Nat.le_refl _, a3, rfl, by rw [show (cumQ y 1 : Int) = 0 from rfl, Int.add_zero], HB2⟩
      case round =>
        obtain ⟨k, hk1, hk, rfl, rfl, HR⟩ := hrel
        by_cases hlt : k < m
        · have hk2 : (k : Int) < (m : Int) := by omega
          have HST := Lib.hid (cum_step y k hk1)
          have hcb := cum_le y k hk1 (by omega)
          have hl1 : oneL y ≤ 1 := by unfold oneL; split <;> omega
          have hmo := mon_le y k
          obtain ⟨C, hC⟩ : ∃ C, cumQ y k = C := ⟨_, rfl⟩
          rw [hC] at HST hcb ⊢
          go_wp2_with fail
          refine (HMO.out _ k hk1 (by omega)).mono ?_
          rintro e w3 ⟨rfl, hb3⟩
          have HB3 := Lib.hid (HR.out.trans (hb3.mono HR.out.size))
          clear hb3
          obtain ⟨L, hL⟩ : ∃ L, monQ y k = L := ⟨_, rfl⟩
          rw [hL] at HST hcb hmo ⊢
          clear hL hC
          go_wp2
          go_roundw
          case rel => exact ⟨k + 1, by omega, by omega, by go_num, by rw [HST.out]; go_num, HB3⟩
          case measure => simp [intOf] <;> omega
        · obtain rfl : m = k := by omega
          go_wp2
          go_ret
          rw [HV.out, HDY.out, HY.out]
          refine ⟨?_, HR.out⟩
          go_num
    · have HV := Lib.hid (HNO.out fun h => h6 h.2.2.2.2.2)
      have g6 : decide (monQ y m < d) = true := decide_eq_true (by omega)
      go_wp2
      go_ret
      rw [HV.out]
      exact ⟨rfl, HB1.out⟩
  · have HV := Lib.hid (HNO.out fun h => h1 ⟨h.1, h.2.1, h.2.2.1, h.2.2.2.1, h.2.2.2.2.1⟩)
    clear HNO HYES
    by_cases a1 : 1 ≤ y
    · have g1 : decide ((y : Int) < 1) = false := decide_eq_false (by omega)
      by_cases a2 : y ≤ 9999
      · have g2 : decide ((9999 : Int) < (y : Int)) = false := decide_eq_false (by omega)
        by_cases a3 : 1 ≤ m
        · have g3 : decide ((m : Int) < 1) = false := decide_eq_false (by omega)
          by_cases a4 : m ≤ 12
          · have g4 : decide ((12 : Int) < (m : Int)) = false := decide_eq_false (by omega)
            have g5 : decide ((d : Int) < 1) = true := decide_eq_true (by omega)
            go_wp2
            go_ret
            rw [HV.out]
            exact ⟨rfl, Below.refl _ _⟩
          · have g4 : decide ((12 : Int) < (m : Int)) = true := decide_eq_true (by omega)
            go_wp2
            go_ret
            rw [HV.out]
            exact ⟨rfl, Below.refl _ _⟩
        · have g3 : decide ((m : Int) < 1) = true := decide_eq_true (by omega)
          go_wp2
          go_ret
          rw [HV.out]
          exact ⟨rfl, Below.refl _ _⟩
      · have g2 : decide ((9999 : Int) < (y : Int)) = true := decide_eq_true (by omega)
        go_wp2
        go_ret
        rw [HV.out]
        exact ⟨rfl, Below.refl _ _⟩
    · have g1 : decide ((y : Int) < 1) = true := decide_eq_true (by omega)
      go_wp2
      go_ret
      rw [HV.out]
      exact ⟨rfl, Below.refl _ _⟩
end Go.Proofs.YtomcdhmcjndioaaGreatDoor
end
section
namespace Go.Proofs.YtomcdhmcjndioaaGreatDoor
open Go.RowKit
set_option linter.unusedVariables false

theorem cum_mono (y : Nat) {j k : Nat} (h1 : 1 ≤ j) (h : j < k) : cumQ y j + monQ y j ≤ cumQ y k := by
  induction k with
  | zero => omega
  | succ k ih =>
    rcases (show j = k ∨ j < k by omega) with e | e
    · subst e; rw [cum_step y j h1]; omega
    · have := ih e; rw [cum_step y k (by omega)]; omega
theorem year_cmp {y m d : Nat} (h : dateB y m d = true) (a : Nat) : yearQ a ≤ dayQ y m d ↔ a ≤ y := by
  have hin := day_in h
  constructor
  · intro h1
    rcases (show a ≤ y ∨ y + 1 ≤ a by omega) with h2 | h2
    · exact h2
    · have := year_mono (a := (y : Int) + 1) (b := a) (by omega); omega
  · intro h1
    have := year_mono (a := a) (b := y) (by omega); omega
theorem half_pow (i : Nat) : 2 ^ (i + 1) / 2 = 2 ^ i := by rw [Nat.pow_succ]; omega
def CivPost (w : World) (y m d : Nat) (e : Ending) (w' : World) : Prop := e = .returned (.tuple #[.int .i64 (y : Int), .int .i64 (m : Int), .int .i64 (d : Int)]) ∧ Below w.heap.size w w'
set_option maxRecDepth 100000 in
set_option maxHeartbeats 4000000 in
theorem rcivil_any (y m d : Nat) (h : dateB y m d = true) (w : World) : Calls Tryz.prog 134 #[.int .i64 (dayQ y m d)] w (CivPost w y m d) := by
  unfold CivPost
  have hin := day_in h
  have HCM := Lib.hid (fun (a b : Nat) => show yearQ ((a : Int) + (b : Int)) ≤ dayQ y m d ↔ a + b ≤ y by have h := year_cmp h (a + b); rw [Int.natCast_add] at h; exact h)
  have HDY := Lib.hid (day_year y m d)
  unfold dateB at h
  simp only [Bool.and_eq_true, decide_eq_true_eq] at h
  obtain ⟨⟨⟨⟨⟨a1, a2⟩, a3⟩, a4⟩, a5⟩, a6⟩ := h
  have HMO := Lib.hid (fun W k (h1 : 1 ≤ k) (h2 : k ≤ 12) => rmonth_any y k a1 (by omega) h1 h2 W)
  have HYE := Lib.hid (fun W (a b : Nat) (h1 : 1 ≤ a) (h2 : a + b ≤ 100000) => show Calls Tryz.prog 150 #[.int .i64 ((a : Int) + (b : Int))] W fun e w' => e = .returned (.int .i64 (yearQ ((a : Int) + (b : Int)))) ∧ Below W.heap.size W w' from by
    have h := ryear_any (a + b) (by omega) h2 W
    rw [Int.natCast_add] at h
    exact h)
  have HY0 := Lib.hid (fun W => ryear_any y (by omega) (by omega) W)
  have hin1 := hin.2.2.1
  have hin2 := hin.2.2.2
  clear hin
  obtain ⟨V, hV⟩ : ∃ V, dayQ y m d = V := ⟨_, rfl⟩
  rw [hV] at HCM HDY hin1 hin2 ⊢
  clear hV
  have g1 : decide (V < -719162) = false := decide_eq_false (by omega)
  have g2 : decide (2932896 < V) = false := decide_eq_false (by omega)
  go_enter Tryz.func134, Tryz.ntmps134
  go_wp2
  go_loopw [5, 6] (fun a i wr => ∃ z s j : Nat, 1 ≤ z ∧ z ≤ y ∧ j ≤ 14 ∧ s = 2 ^ j / 2 ∧ y < z + 2 ^ j ∧ a = .int .i64 (z : Int) ∧ i = .int .i64 (s : Int) ∧ Hid (Below w.heap.size w wr)) (fun _ i _ => (intOf i).toNat)
  case atStart => exact ⟨1, 8192, 14, Nat.le_refl _, a1, Nat.le_refl _, by decide, Nat.lt_of_le_of_lt a2 (by decide), rfl, rfl, Lib.hid (Below.refl _ _)⟩
  case round =>
    obtain ⟨z, s, j, hz1, hz2, hj, hs, hyz, rfl, rfl, HR⟩ := hrel
    cases j with
    | zero =>
      have hs0 : s = 0 := by rw [hs]
      have hyz2 : z = y := by have : (2 : Nat) ^ 0 = 1 := rfl; omega
      subst hs0
      clear hs hyz hj hz2
      obtain rfl : y = z := hyz2.symm
      clear HYE HCM hyz2
      go_wp2_with fail
      refine (HY0.out wr).mono ?_
      rintro e w2 ⟨rfl, hb2⟩
      have HB2 := Lib.hid (HR.out.trans (hb2.mono HR.out.size))
      clear hb2 HY0 HR
      obtain ⟨Y, hY⟩ : ∃ Y, yearQ y = Y := ⟨_, rfl⟩
      rw [hY] at HDY ⊢
      obtain ⟨CM, hCM⟩ : ∃ c, cumQ y m = c := ⟨_, rfl⟩
      have HCM := Lib.hid hCM
      have hcm := cum_le y m a3 a4
      have hl1 : oneL y ≤ 1 := by unfold oneL; split <;> omega
      have hmo := mon_le y m
      rw [hCM] at HDY hcm
      have HVY := Lib.hid (show V - Y = (CM : Int) + (d : Int) - 1 by have := HDY.out; omega)
      have hVY : -1000000 ≤ V - Y ∧ V - Y ≤ 1000000 := by rw [HVY.out]; omega
      clear hY hCM HDY
      go_wp2
      go_loopw [7, 8] (fun a i wr => ∃ (k C : Nat), 1 ≤ k ∧ k ≤ m ∧ C = cumQ y k ∧ a = .int .i64 ((CM : Int) + (d : Int) - 1 - (C : Int)) ∧ i = .int .i64 (k : Int) ∧ Hid (Below w.heap.size w wr)) (fun _ i _ => m - (intOf i).toNat)
      case atStart => exact ⟨1, 0, Nat.le_refl _, a3, rfl, by rw [← HVY.out]; go_num, rfl, HB2⟩
      case round =>
        obtain ⟨k, C, hk1, hk, hC, rfl, rfl, HR⟩ := hrel
        have HC := Lib.hid hC
        by_cases hlt : k < m
        · have hcu := cum_mono y hk1 hlt
          rw [HCM.out, ← hC] at hcu
          have hmk := mon_le y k
          have HST := Lib.hid (cum_step y k hk1)
          obtain ⟨L, hL⟩ : ∃ L, monQ y k = L := ⟨_, rfl⟩
          have HMK := Lib.hid (fun W => HMO.out W k hk1 (by omega))
          rw [hL] at hcu hmk HST HMK
          have g5 : decide ((L : Int) ≤ (CM : Int) + (d : Int) - 1 - (C : Int)) = true := decide_eq_true (by omega)
          clear hL hC
          go_wp2_with fail
          refine (HMK.out wr).mono ?_
          rintro e w3 ⟨rfl, hb3⟩
          have HB3 := Lib.hid (HR.out.trans (hb3.mono HR.out.size))
          clear hb3 HR
          go_wp2_with fail
          refine (HMK.out w3).mono ?_
          rintro e w4 ⟨rfl, hb4⟩
          have HB4 := Lib.hid (HB3.out.trans (hb4.mono HB3.out.size))
          clear hb4 HB3
          go_wp2
          go_roundw
          case rel => exact ⟨k + 1, C + L, by omega, by omega, by rw [HST.out, HC.out], by go_num, by go_num, HB4⟩
          case measure => simp [intOf] <;> omega
        · obtain rfl : m = k := by omega
          have hCC : C = CM := by rw [hC]; exact HCM.out
          have HMK := Lib.hid (fun W => HMO.out W m hk1 (by omega))
          obtain ⟨L, hL⟩ : ∃ L, monQ y m = L := ⟨_, rfl⟩
          rw [hL] at HMK a6 hcm hmo
          have g5 : decide ((L : Int) ≤ (CM : Int) + (d : Int) - 1 - (C : Int)) = false := decide_eq_false (by omega)
          have HEQ := Lib.hid (show (CM : Int) + (d : Int) - 1 - (C : Int) + 1 = (d : Int) by omega)
          have hCM2 : (C : Int) = (CM : Int) := by omega
          clear hL hC hCC
          go_wp2_with fail
          refine (HMK.out wr).mono ?_
          rintro e w3 ⟨rfl, hb3⟩
          have HB3 := Lib.hid (HR.out.trans (hb3.mono HR.out.size))
          clear hb3 HR
          go_wp2
          go_ret3
          refine ⟨?_, HB3.out⟩
          go_num
    | succ i =>
      rw [half_pow] at hs
      rw [Nat.pow_succ, ← hs] at hyz
      have hsp : 1 ≤ s := by rw [hs]; exact Nat.one_le_two_pow
      have hsm : s ≤ 8192 := by rw [hs]; exact Nat.pow_le_pow_right (by decide) (show i ≤ 13 by omega)
      have HNX := Lib.hid (show s / 2 = 2 ^ i / 2 by rw [hs])
      have HS := Lib.hid hs
      clear hs
      have g3 : decide ((0 : Int) < (s : Int)) = true := decide_eq_true (by omega)
      by_cases e1 : z + s ≤ 9999
      · have g4 : decide ((z : Int) + (s : Int) ≤ 9999) = true := decide_eq_true (by omega)
        have HC := Lib.hid (HCM.out z s)
        go_wp2_with fail
        refine (HYE.out wr z s hz1 (by omega)).mono ?_
        rintro e w2 ⟨rfl, hb2⟩
        have HB2 := Lib.hid (HR.out.trans (hb2.mono HR.out.size))
        clear hb2
        obtain ⟨t, ht⟩ : ∃ t, yearQ ((z : Int) + (s : Int)) = t := ⟨_, rfl⟩
        rw [ht] at HC ⊢
        clear ht
        by_cases e2 : z + s ≤ y
        · have g5 : decide (t ≤ V) = true := decide_eq_true (HC.out.2 e2)
          go_wp2
          go_roundw
          case rel => exact ⟨z + s, s / 2, i, by omega, e2, by omega, HNX.out, by rw [← HS.out]; omega, by go_num, by go_num, HB2⟩
          case measure => simp [intOf] <;> omega
        · have g5 : decide (t ≤ V) = false := decide_eq_false (fun h => e2 (HC.out.1 h))
          go_wp2
          go_roundw
          case rel => exact ⟨z, s / 2, i, hz1, hz2, by omega, HNX.out, by rw [← HS.out]; omega, rfl, by go_num, HB2⟩
          case measure => simp [intOf] <;> omega
      · have g4 : decide ((z : Int) + (s : Int) ≤ 9999) = false := decide_eq_false (by omega)
        go_wp2
        go_roundw
        case rel => exact ⟨z, s / 2, i, hz1, hz2, by omega, HNX.out, by rw [← HS.out]; omega, rfl, by go_num, HR⟩
        case measure => simp [intOf] <;> omega
end Go.Proofs.YtomcdhmcjndioaaGreatDoor
end
section
namespace Go.Proofs.YtomcdhmcjndioaaGreatDoor
open Go.RowKit
set_option linter.unusedVariables false

set_option maxRecDepth 100000 in
set_option maxHeartbeats 4000000 in
theorem ddiv400_any (n : Nat) (h2 : n ≤ 1000000000) (w : World) : Calls Tryz.prog 110 #[.int .i64 (n : Int), .int .i64 400] w fun e w' => e = .returned (.tuple #[.int .i64 ((n : Int) / 400), .int .i64 ((n : Int) % 400)]) ∧ Below w.heap.size w w' := by
  have g1 : decide ((n : Int) % 400 < 0) = false := decide_eq_false (by omega)
  go_enter Tryz.func110, Tryz.ntmps110
  go_wp2
  go_quiet (fail)
  go_wp2
  go_ret2
  exact ⟨rfl, Go.below_drewN (Below.refl _ _) _⟩
set_option maxRecDepth 100000 in
set_option maxHeartbeats 4000000 in
theorem ddiv146097_any (n : Nat) (h2 : n ≤ 1000000000) (w : World) : Calls Tryz.prog 110 #[.int .i64 (n : Int), .int .i64 146097] w fun e w' => e = .returned (.tuple #[.int .i64 ((n : Int) / 146097), .int .i64 ((n : Int) % 146097)]) ∧ Below w.heap.size w w' := by
  have g1 : decide ((n : Int) % 146097 < 0) = false := decide_eq_false (by omega)
  go_enter Tryz.func110, Tryz.ntmps110
  go_wp2
  go_quiet (fail)
  go_wp2
  go_ret2
  exact ⟨rfl, Go.below_drewN (Below.refl _ _) _⟩
set_option maxRecDepth 100000 in
set_option maxHeartbeats 4000000 in
theorem dcount_any (y m d : Nat) (hy1 : 1 ≤ y) (hy : y ≤ 9999) (hm1 : 1 ≤ m) (hm : m ≤ 12) (hd1 : 1 ≤ d) (hd : d ≤ 31) (w : World) : Calls Tryz.prog 145 #[.int .i64 (y : Int), .int .i64 (m : Int), .int .i64 (d : Int)] w (DayPost w (cntP y m d)) := by
  unfold DayPost
  have HDV := Lib.hid (fun n (h : n ≤ 1000000000) W => ddiv400_any n h W)
  by_cases e1 : m < 3
  · obtain ⟨z, hz⟩ : ∃ z, y = z + 1 := ⟨y - 1, by omega⟩
    have HV := Lib.hid (show cntP y m d = (z : Int) / 400 * 146097 + (z : Int) % 400 * 365 + (z : Int) % 400 / 4 - (z : Int) % 400 / 100 + ((153 * (((m : Int) + 9) % 12) + 2) / 5 + (d : Int) - 1) - 719468 by
      unfold cntP
      dsimp only
      rw [if_pos (by omega), show (y : Int) - 1 = z by omega])
    have g1 : decide ((m : Int) < 3) = true := decide_eq_true (by omega)
    have hyz : (y : Int) - 1 = (z : Int) := by omega
    have hz0 : z ≤ 9998 := by omega
    clear hz e1
    go_enter Tryz.func145, Tryz.ntmps145
    go_wp2_with fail
    refine (HDV.out z (by omega) w).mono ?_
    rintro e w1 ⟨rfl, hb1⟩
    have HB1 := Lib.hid hb1
    clear hb1 HDV
    go_wp2
    go_ret
    rw [HV.out]
    refine ⟨?_, HB1.out⟩
    go_num
  · have HV := Lib.hid (show cntP y m d = (y : Int) / 400 * 146097 + (y : Int) % 400 * 365 + (y : Int) % 400 / 4 - (y : Int) % 400 / 100 + ((153 * (((m : Int) + 9) % 12) + 2) / 5 + (d : Int) - 1) - 719468 by
      unfold cntP
      dsimp only
      rw [if_neg (by omega)])
    have g1 : decide ((m : Int) < 3) = false := decide_eq_false (by omega)
    clear e1
    go_enter Tryz.func145, Tryz.ntmps145
    go_wp2_with fail
    refine (HDV.out y (by omega) w).mono ?_
    rintro e w1 ⟨rfl, hb1⟩
    have HB1 := Lib.hid hb1
    clear hb1 HDV
    go_wp2
    go_ret
    rw [HV.out]
    refine ⟨?_, HB1.out⟩
    go_num
end Go.Proofs.YtomcdhmcjndioaaGreatDoor
end
section
namespace Go.Proofs.YtomcdhmcjndioaaGreatDoor
open Go.RowKit
set_option linter.unusedVariables false

theorem info_u8 : (Tryz.prog.info? 5).map (fun i => (i.zero, i.size, i.bytes)) = some (some (.int .u8 0), 1, 1) := by kernel_rfl
/-- v owns the bytes l, in memory from B on. -/
def OwnBytes (w : World) (B : Nat) (v : Value) (l : List UInt8) : Prop := w.ownsRow B 5 1 v l.length (Lib.byteCells l)
theorem OwnBytes.nil_ (w : World) (B : Nat) : OwnBytes w B (.slice none 0 0) [] := World.ownsRow_nil _ _ _ _
theorem OwnBytes.block {w w' : World} {B : Nat} {v : Value} {l : List UInt8} (h : OwnBytes w B v l) (hb : ∀ b, v.ownBlock = some b → w'.heap[b]? = w.heap[b]?) : OwnBytes w' B v l := ownsRow_block h hb
theorem wpList_pushByte {ops : Array Oper} {rest : List Oper} {o : Oper} {a : Act} {W : World} {Q : Exit → Act → World → Prop} {B : Nat} {y : UInt8} {u : Int} {v : Value} {l : List UInt8} (hown : OwnBytes W B v l) (hB : B ≤ W.heap.size)
    (hu : u = (y.toNat : Int)) (hlen : l.length < 1099511627776) (hgd : o.guard = none) (s x : Operand) (c : Nat)
    (ho : o.op = .call { callee := .builtin .append, args := #[s, x], argTypes := #[93, 93] })
    (hs : a.eval s = v) (hx : a.eval x = .slice (some ⟨W.heap.size, 0, none⟩) 1 c)
    (h : ∀ v' w', OwnBytes w' B v' (l ++ [y]) → W.grownBy w' v.ownBlock → (v'.ownBlock = v.ownBlock ∨ ∃ k, v'.ownBlock = some k ∧ W.heap.size ≤ k) → wpList Tryz.prog ops Q rest (a.put o.dst v') w') :
    wpList Tryz.prog ops Q (o :: rest) a (W.alloc (.cells #[.int .u8 u] 5)) := by
  obtain ⟨i0, hi, hz0, hz1, hz2⟩ := info_parts info_u8
  subst hu
  have hl : (Lib.byteCells l).length = l.length := Lib.byteCells_length l
  refine wpList_append_own_at _ hgd s x 93 ho B 5 i0 _ 1 1 Tryz.underlying93 hi hz0 hz1 hz2 rfl (by omega) v l.length (Lib.byteCells l) hs (World.ownsRow.alloc hown _) ⟨W.heap.size, 0, none⟩ 1 c [.int .u8 y.toNat] hx rfl (cell_one_new _ _ _) ?_ (by simp only [maxLen]; omega) (by omega) (by simp; omega) ?_
  · intro u hu; simp at hu; subst hu; rfl
  · intro v' w' h1 h2 _ h4
    refine h v' w' ?_ ?_ ?_
    · unfold OwnBytes
      rw [Lib.byteCells_append, List.length_append]
      exact h1
    · have h5 := World.grownBy_alloc W (.cells #[.int .u8 y.toNat] 5) v.ownBlock
      exact ⟨h2.os.trans h5.os, h2.tape.trans h5.tape, h2.output.trans h5.output, Nat.le_trans h5.size h2.size, fun k hk hne => (h2.block k (by simp; omega) hne).trans (h5.block k hk hne)⟩
    · rcases h4 with h4 | h4
      · exact .inl h4
      · exact .inr ⟨_, h4, by simp⟩
/-- 'string(b)'. -/
theorem OwnBytes.str {w : World} {B : Nat} {v : Value} {l : List UInt8} (h : OwnBytes w B v l) : (convert 93 9 v).run Tryz.prog w = .ok (.string (ba l)) w := by
  rcases h.2 with ⟨rfl, h0⟩ | ⟨g, cap, cur, rfl, _⟩
  · have : l = [] := List.eq_nil_of_length_eq_zero h0
    subst this
    exact run_convert_bytes_nil (P := Tryz.prog) (w := w) 93 5 Tryz.underlying93 Tryz.underlying5 0 0 9 Tryz.underlying9
  · exact run_convert_bytes_back w 93 9 5 ⟨g, 0, none⟩ cap l Tryz.underlying93 Tryz.underlying5 Tryz.underlying9 fun j hj => h.cells (g := g) rfl j _ (by simp [Lib.byteCells, hj])
end Go.Proofs.YtomcdhmcjndioaaGreatDoor
end
section
namespace Go.Proofs.YtomcdhmcjndioaaGreatDoor
open Go.RowKit
set_option linter.unusedVariables false

theorem u8_int_eq' {c d : UInt8} : (c.toNat : Int) = (d.toNat : Int) ↔ c = d := ⟨fun h => UInt8.toNat_inj.1 (by omega), fun h => by rw [h]⟩
theorem u8i (c : UInt8) : 0 ≤ (c.toNat : Int) ∧ (c.toNat : Int) ≤ 255 := by have := c.toNat_lt; omega
theorem OwnBytes.shape {w : World} {B : Nat} {v : Value} {l : List UInt8} (h : OwnBytes w B v l) : ∃ A c, v = .slice A l.length c := by
  rcases h.2 with ⟨rfl, h0⟩ | ⟨g, cap, cur, rfl, hb, hg, q1, q2, q3⟩
  · exact ⟨none, 0, by rw [h0]⟩
  · exact ⟨_, cap, rfl⟩
def RSmRel (w : World) (l : List UInt8) (k : Nat) (v : Value) (wr : World) : Prop := OwnBytes wr w.heap.size v (smallP (l.take k)) ∧ Below w.heap.size w wr
theorem smallP_snoc {l : List UInt8} {k : Nat} (hk : k < l.length) : smallP (l.take (k + 1)) = smallP (l.take k) ++ [smallB l[k]] := by
  rw [List.take_succ_eq_append_getElem hk]
  unfold smallP
  rw [List.map_append]
  rfl
set_option maxRecDepth 100000 in
set_option maxHeartbeats 4000000 in
theorem rqsmall_any (l : List UInt8) (w : World) (hl : l.length ≤ 1000000000) :
    Calls Tryz.prog 51 #[.string (ba l)] w (StrB w (smallP l)) := by
  obtain ⟨n, hn⟩ : ∃ n, l.length = n := ⟨_, rfl⟩
  have HL := Lib.hid hn
  obtain ⟨s, hs⟩ : ∃ s, ba l = s := ⟨_, rfl⟩
  have HS := Lib.hid hs
  have HZ := Lib.hid (show s.size = n by rw [← hs, ba_size, hn])
  have hsz : (s.size : Int) = n := by rw [HZ.out]
  rw [hs]
  rw [hn] at hl
  clear hs hn
  go_enter Tryz.func51, Tryz.ntmps51
  go_wp2
  go_loopw [3, 4, 5] (fun v i c wr => ∃ (k : Nat) (x : Value), c = x ∧ k ≤ n ∧ i = .int .i64 (k : Int) ∧ Hid (RSmRel w l k v wr)) (fun _ i _ _ => n - (intOf i).toNat)
  case atStart => exact ⟨0, _, rfl, Nat.zero_le _, rfl, OwnBytes.nil_ _ _, Below.refl _ _⟩
  case round =>
    obtain ⟨k, xc, rfl, hk, rfl, HR⟩ := hrel
    have hB := HR.out.2.size
    by_cases hlt : k < n
    · have hk2 : (k : Int) < (n : Int) := by omega
      have hk0 : (0 : Int) ≤ (k : Int) := by omega
      have hks : k < s.size := by rw [HZ.out]; omega
      have hkl : k < l.length := by rw [HL.out]; omega
      have hget : s[k] = l[k] := by
        have h := HS.out
        subst h
        rfl
      have HT := Lib.hid (smallP_snoc hkl)
      have HAL := Lib.hid (show (smallP (l.take k)).length < 1099511627776 by rw [smallP_len, List.length_take]; omega)
      obtain ⟨c, hc⟩ : ∃ c, l[k] = c := ⟨_, rfl⟩
      rw [hc] at hget HT
      obtain ⟨x, hx⟩ : ∃ x : Int, (c.toNat : Int) = x := ⟨_, rfl⟩
      have hgi : ((s[k]).toNat : Int) = x := by rw [hget]; exact hx
      have HX := Lib.hid hx
      have hx0 : 0 ≤ x := by omega
      have hx1 : x ≤ 255 := by have := c.toNat_lt; omega
      clear hc hkl hget hx
      have HY := Lib.hid (smallB_yes (c := c))
      have HNO := Lib.hid (smallB_no (c := c))
      have HOWN := Lib.hid HR.out.1
      have HBEL := Lib.hid HR.out.2
      clear HR
      by_cases e1 : 65 ≤ x ∧ x ≤ 90
      · have g1 : decide (65 ≤ x) = true := decide_eq_true e1.1
        have g2 : decide (x ≤ 90) = true := decide_eq_true e1.2
        have hx2 : x ≤ 90 := e1.2
        have HYB := Lib.hid (show x + 32 = ((smallB c).toNat : Int) by rw [HY.out (by rw [HX.out]; exact e1)]; have := HX.out; have := c.toNat_lt; simp; omega)
        clear e1
        go_wp2_with (at_builtin; go_must (refine wpList_pushByte (y := smallB c) HOWN.out hB HYB.out HAL.out rfl (.tmp 23) (.tmp 25) 1 rfl rfl rfl ?_); intro v2 w2 h1 h2 h3; (have H1 := Lib.hid h1; have H2 := Lib.hid h2; clear h1 h2 h3))
        go_roundw
        case rel =>
          refine ⟨k + 1, _, rfl, by omega, by go_num, ?_, HBEL.out.grown H2.out hB fun g e => (World.ownsRow.lt HOWN.out g e).1⟩
          rw [HT.out]
          exact H1.out
        case measure => simp [intOf] <;> omega
      · have HYB := Lib.hid (show x = ((smallB c).toNat : Int) by rw [HNO.out (by rw [HX.out]; exact e1)]; exact HX.out.symm)
        by_cases e2 : 65 ≤ x
        · have g1 : decide (65 ≤ x) = true := decide_eq_true e2
          have g2 : decide (x ≤ 90) = false := decide_eq_false fun h => e1 ⟨e2, h⟩
          clear e1 e2
          go_wp2_with (at_builtin; go_must (refine wpList_pushByte (y := smallB c) HOWN.out hB HYB.out HAL.out rfl (.tmp 23) (.tmp 25) 1 rfl rfl rfl ?_); intro v2 w2 h1 h2 h3; (have H1 := Lib.hid h1; have H2 := Lib.hid h2; clear h1 h2 h3))
          go_roundw
          case rel =>
            refine ⟨k + 1, _, rfl, by omega, by go_num, ?_, HBEL.out.grown H2.out hB fun g e => (World.ownsRow.lt HOWN.out g e).1⟩
            rw [HT.out]
            exact H1.out
          case measure => simp [intOf] <;> omega
        · have g1 : decide (65 ≤ x) = false := decide_eq_false e2
          clear e1 e2
          go_wp2_with (at_builtin; go_must (refine wpList_pushByte (y := smallB c) HOWN.out hB HYB.out HAL.out rfl (.tmp 23) (.tmp 25) 1 rfl rfl rfl ?_); intro v2 w2 h1 h2 h3; (have H1 := Lib.hid h1; have H2 := Lib.hid h2; clear h1 h2 h3))
          go_roundw
          case rel =>
            refine ⟨k + 1, _, rfl, by omega, by go_num, ?_, HBEL.out.grown H2.out hB fun g e => (World.ownsRow.lt HOWN.out g e).1⟩
            rw [HT.out]
            exact H1.out
          case measure => simp [intOf] <;> omega
    · obtain rfl : k = n := by omega
      have hown : OwnBytes wr w.heap.size u3 (smallP l) := by
        have := HR.out.1
        rw [List.take_of_length_le (by rw [HL.out]; exact Nat.le_refl _)] at this
        exact this
      have hconv := hown.str
      clear hown
      go_wp2
      go_ret
      exact ⟨rfl, HR.out.2⟩
end Go.Proofs.YtomcdhmcjndioaaGreatDoor
end
section
namespace Go.Proofs.YtomcdhmcjndioaaGreatDoor
open Go.RowKit
set_option linter.unusedVariables false

/-- strconv.ErrRange holds some error (or none). -/
def ErrVar (w : World) : Prop := ∃ ev, w.cell? ⟨6, 0, none⟩ = some ev ∧ (ev = .nilIface ∨ ∃ te pe, ev = .iface te pe)
def ParsePost (w : World) (o : Option Int) (e : Ending) (w' : World) : Prop := e = .returned (.tuple #[.int .i64 (o.getD 0), .bool o.isSome]) ∧ Below w.heap.size w w'
theorem parse_none {w w' : World} {o : Option Int} (h : o = none) (hb : Below w.heap.size w w') : ParsePost w o (.returned (.tuple #[.int .i64 0, .bool false])) w' := by
  subst h
  exact ⟨rfl, hb⟩
theorem parse_some {w w' : World} {o : Option Int} {v : Int} (h : o = some v) (hb : Below w.heap.size w w') : ParsePost w o (.returned (.tuple #[.int .i64 v, .bool true])) w' := by
  subst h
  exact ⟨rfl, hb⟩
theorem trim_dash (l : List UInt8) : Lib.trimPrefix l [45] = decD l := by
  unfold Lib.trimPrefix decD
  cases l with
  | nil => rfl
  | cons c r =>
    by_cases h : c = 45
    · subst h; rfl
    · have : ¬ (c :: r).head? = some 45 := fun e => h (Option.some.inj e)
      rw [if_neg this]
      have h2 : List.isPrefixOf [45] (c :: r) = false := by simp [List.isPrefixOf]; exact fun e => h e.symm
      simp [Lib.hasPrefix, h2]
/-- The rune at a place is a digit if the byte is. -/
theorem rune_digit {l : List UInt8} (h : l ≠ []) : (48 ≤ (uN l).1 ∧ (uN l).1 ≤ 57) → digitB (l.getD 0 0) = true ∧ (uN l).2 = 1 := by
  intro hr
  have hc := uN_cases l h
  have hb : bt l 0 = (l.getD 0 0).toNat := rfl
  rcases hc with ⟨h1, h2 | h2⟩ | h2 | h2 | h2
  · exact ⟨digitB_nat.2 (by rw [← hb]; omega), h1⟩
  all_goals omega
theorem digit_rune {l : List UInt8} (h : l ≠ []) (hd : digitB (l.getD 0 0) = true) : 48 ≤ (uN l).1 ∧ (uN l).1 ≤ 57 ∧ (uN l).2 = 1 := by
  have hd2 := digitB_nat.1 hd
  have hb : bt l 0 = (l.getD 0 0).toNat := rfl
  rw [← hb] at hd2
  have hc := uN_cases l h
  rcases hc with ⟨h1, h2 | h2⟩ | h2 | h2 | h2
  · omega
  all_goals omega
/-- The state of the range: all before pos are digits. -/
structure PrRel (w : World) (s : ByteArray) (d : List UInt8) (pos : Nat) (wr : World) : Prop where
  iter : wr.heap[w.heap.size]? = some (.stringIter s pos)
  bel : Below w.heap.size w wr
  dig : (d.take pos).all digitB = true
theorem dig_snoc {d : List UInt8} {k : Nat} (hk : k < d.length) (h : (d.take k).all digitB = true) (h2 : digitB ((d.drop k).getD 0 0) = true) : (d.take (k + 1)).all digitB = true := by
  rw [List.take_succ_eq_append_getElem hk, List.all_append, h]
  have e : (d.drop k).getD 0 0 = d[k] := by simp [List.getD_eq_getElem?_getD, List.getElem?_drop, hk]
  rw [e] at h2
  simp [h2]
theorem not_canon_digit {l : List UInt8} {k : Nat} (hk : k < (decD l).length) (h : digitB (((decD l).drop k).getD 0 0) = false) : ¬ canonB l := by
  rintro ⟨h1, _⟩
  have e : ((decD l).drop k).getD 0 0 = (decD l)[k] := by simp [List.getD_eq_getElem?_getD, List.getElem?_drop, hk]
  rw [e] at h
  have := List.all_eq_true.1 h1 _ (List.getElem_mem hk)
  rw [this] at h
  cases h
def AtoiPost (w : World) (v : Value) (e : Ending) (w' : World) : Prop := e = .returned v ∧ Below w.heap.size w w'
theorem below_bytesWorld (w : World) (e : TypeId) (t : ByteArray) : Below w.heap.size w (Lib.bytesWorld w e t) := by
  unfold Lib.bytesWorld
  exact Lib.below_freeze (((Below.refl _ _).drew).alloc (Nat.le_refl _) _) (p := ⟨w.heap.size, _, none⟩) (Nat.le_refl _) _
theorem atoi_ok (l : List UInt8) (s : ByteArray) (hs : ba l = s) (hl : l.length ≤ 1000000000) {v : Int} (h : Lib.atoiAll l = .ok v) (w : World) : Calls Tryz.prog 125 #[.string s] w (AtoiPost w (.tuple #[.int .i64 v, .nilIface])) := by
  subst hs
  refine (Tryz.strconv_Atoi_ok (ba l) (by rw [ba_size]; omega) v h w).mono ?_
  rintro e w' ⟨rfl, rfl | ⟨t, rfl⟩⟩
  · exact ⟨rfl, Below.refl _ _⟩
  · exact ⟨rfl, below_bytesWorld _ _ _⟩
def AtoiPost2 (w : World) (e : Ending) (w' : World) : Prop := ∃ n t p, e = .returned (.tuple #[.int .i64 n, .iface t p]) ∧ Below w.heap.size w w'
theorem atoi_range (l : List UInt8) (s : ByteArray) (hs : ba l = s) (hl : l.length ≤ 1000000000) (h : Lib.atoiAll l = .range) (w : World) (hE : ErrVar w) : Calls Tryz.prog 125 #[.string s] w (AtoiPost2 w) := by
  subst hs
  obtain ⟨ev, h1, h2⟩ := hE
  refine (Tryz.strconv_Atoi_range (ba l) (by rw [ba_size]; omega) h ev w h1 h2).mono ?_
  rintro e w' ⟨N, rfl, _, _, hb⟩
  exact ⟨_, _, _, rfl, hb⟩
theorem ErrVar.keep {w w' : World} (h : ErrVar w) (hb : Below w.heap.size w w') (hlt : 6 < w.heap.size) : ErrVar w' := by
  obtain ⟨ev, h1, h2⟩ := h
  exact ⟨ev, (hb.cell (p := ⟨6, 0, none⟩) hlt).trans h1, h2⟩
set_option maxRecDepth 100000 in
set_option maxHeartbeats 4000000 in
theorem num_parse_any (l : List UInt8) (lo hi : Int) (w : World) (hl : l.length ≤ 1000000000) (hlo : -9223372036854775808 ≤ lo) (hhi : hi ≤ 9223372036854775807) (hE : ErrVar w) (hlt6 : 6 < w.heap.size) :
    Calls Tryz.prog 109 #[.string (ba l), .int .i64 lo, .int .i64 hi] w (ParsePost w (decP l lo hi)) := by
  have HTR := Lib.hid (fun W => Tryz.strings_TrimPrefix (ba l) (⟨#[45]⟩ : ByteArray) W)
  have HD := Lib.hid (trim_dash l)
  have HDP := Lib.hid (decP_eq l lo hi)
  have hdl : (decD l).length ≤ l.length := by unfold decD; split; rw [List.length_drop]; omega; exact Nat.le_refl _
  have HEV := Lib.hid (fun (W : World) (hb : Below w.heap.size w W) => hE.keep hb hlt6)
  clear hE hlt6
  have HNC := Lib.hid (fun k => not_canon_digit (l := l) (k := k))
  obtain ⟨d, hd⟩ : ∃ d, decD l = d := ⟨_, rfl⟩
  have HDD := Lib.hid hd
  simp only [hd] at HD hdl HNC
  clear hd
  have hdn : d.length ≤ 1000000000 := by omega
  obtain ⟨s, hs⟩ : ∃ s, ba d = s := ⟨_, rfl⟩
  have HS := Lib.hid hs
  have HZ := Lib.hid (show s.size = d.length by rw [← hs, ba_size])
  clear hs hdl
  obtain ⟨o, ho⟩ : ∃ o, decP l lo hi = o := ⟨_, rfl⟩
  rw [ho] at HDP ⊢
  clear ho
  obtain ⟨s0, hs0⟩ : ∃ s, ba l = s := ⟨_, rfl⟩
  have HS0 := Lib.hid hs0
  rw [hs0] at HTR ⊢
  have HTR2 := Lib.hid (show ∀ W, Calls Tryz.prog 124 #[.string s0, .string ⟨#[45]⟩] W fun e w' => e = .returned (.string s) ∧ w' = W from fun W => (HTR.out W).mono (by
    rintro e w' ⟨rfl, rfl⟩
    refine ⟨?_, rfl⟩
    have e : (Lib.trimPrefix s0.data.toList (⟨#[45]⟩ : ByteArray).data.toList) = d := by rw [← HS0.out, ba_list, ← HD.out]
    rw [e, ← HS.out]
    rfl))
  clear HTR hs0
  go_enter Tryz.func109, Tryz.ntmps109
  go_wp2_with fail
  refine (HTR2.out _).mono ?_
  rintro e w2 ⟨rfl, hw2⟩
  have hw3 := hw2.symm
  subst hw3
  clear hw2 HTR2
  go_wp2
  go_loopw [] (fun wr => ∃ pos : Nat, pos ≤ s.size ∧ Hid (PrRel w s d pos wr)) (fun wr => s.size - wr.iterPos w.heap.size)
  case atStart =>
    refine ⟨0, Nat.zero_le _, Lib.hid ⟨?_, (Below.refl _ w).alloc (Nat.le_refl _) _, rfl⟩⟩
    exact World.iter_heap w s 0
  case round =>
    obtain ⟨pos, hpos, HR⟩ := hrel
    have hit := HR.out.iter
    have hbw := HR.out.bel
    have hszr : w.heap.size < wr.heap.size := heap_lt hit
    by_cases hp : pos < s.size
    · have hpd : pos < d.length := by rw [← HZ.out]; exact hp
      have hne : d.drop pos ≠ [] := by intro e; have := congrArg List.length e; rw [List.length_drop] at this; simp at this; omega
      have hnx0 : ∀ ty, (Instr.next (.pointer (some ⟨w.heap.size, 0, none⟩)) true ty).run Tryz.prog wr = _ := fun ty => Lib.run_next_any_at wr w.heap.size s pos ty hit hp
      have hdec : Utf8.decode s pos = uN (d.drop pos) := by rw [← HS.out]; exact uN_at d pos
      have hup := uN_pos _ hne
      have HRD := Lib.hid (rune_digit hne)
      have HDR := Lib.hid (digit_rune hne)
      have HSN := Lib.hid (dig_snoc hpd HR.out.dig)
      have HNO := Lib.hid (HNC.out pos hpd)
      obtain ⟨⟨r, n⟩, hrn⟩ : ∃ q, uN (d.drop pos) = q := ⟨_, rfl⟩
      rw [hrn] at hdec hup HRD HDR
      rw [hdec] at hnx0
      dsimp only at hup hnx0
      rw [List.length_drop, ← HZ.out] at hup
      have hit2 := Lib.iterAt_heap wr w.heap.size s pos (pos + n) hit
      have hbw2 := Lib.below_iterAt hbw (k := w.heap.size) (by omega) s (pos + n)
      obtain ⟨W, hW⟩ : ∃ W, wr.iterAt w.heap.size s (pos + n) = W := ⟨_, rfl⟩
      have HIP := Lib.hid (show wr.iterPos w.heap.size = pos by simp [World.iterPos, hit])
      rw [hW] at hnx0 hit2 hbw2
      have hnx := hnx0
      have HIT := Lib.hid hit2
      have HBW := Lib.hid hbw2
      obtain ⟨x, hx⟩ : ∃ x : Int, (r : Int) = x := ⟨_, rfl⟩
      simp only [hx] at hnx
      have HX := Lib.hid hx
      clear hW hrn hdec hnx0 hit2 hbw2 hit hbw hx hne HR hpd
      by_cases e1 : 48 ≤ x ∧ x ≤ 57
      · have hd1 := HRD.out (by have := HX.out; show 48 ≤ r ∧ r ≤ 57; omega)
        have HD1 := Lib.hid (HSN.out hd1.1)
        have hn1 : n = 1 := hd1.2
        subst hn1
        have g1 : decide (x < 48) = false := decide_eq_false (by omega)
        have g2 : decide (57 < x) = false := decide_eq_false (by omega)
        clear e1 hd1 hup
        go_wp2
        go_roundw
        case rel => exact ⟨pos + 1, by omega, Lib.hid ⟨HIT.out, HBW.out, HD1.out⟩⟩
        case measure =>
          rw [HIP.out]
          have : W.iterPos w.heap.size = pos + 1 := by simp [World.iterPos, HIT.out]
          rw [this]
          omega
      · have HNN := Lib.hid (show ¬ canonB l from HNO.out (by
          cases hdg : digitB ((d.drop pos).getD 0 0) with
          | false => rfl
          | true =>
            have := HDR.out hdg
            exact absurd (show 48 ≤ x ∧ x ≤ 57 by have h := HX.out; have h1 : 48 ≤ r := this.1; have h2 : r ≤ 57 := this.2.1; omega) e1))
        have HON := Lib.hid (show o = none by rw [HDP.out, if_neg (fun h => HNN.out h.1)])
        by_cases e2 : x < 48
        · have g1 : decide (x < 48) = true := decide_eq_true e2
          clear e1 e2 hup
          go_wp2
          go_ret2
          exact parse_none HON.out HBW.out
        · have g1 : decide (x < 48) = false := decide_eq_false e2
          have g2 : decide (57 < x) = true := decide_eq_true (by omega)
          clear e1 e2 hup
          go_wp2
          go_ret2
          exact parse_none HON.out HBW.out
    · have hnx : ∀ ty, (Instr.next (.pointer (some ⟨w.heap.size, 0, none⟩)) true ty).run Tryz.prog wr = _ := fun ty => Lib.run_next_end_at wr w.heap.size s pos ty hit hp
      have HAL := Lib.hid (show d.all digitB = true by
        have := HR.out.dig
        rw [List.take_of_length_le (by rw [← HZ.out]; omega)] at this
        exact this)
      have HBW := Lib.hid hbw
      clear HR hit hbw
      cases d with
      | nil =>
        have hse : s.toList.isEmpty = true := by rw [← HS.out, ba_toList]; rfl
        have HON := Lib.hid (show o = none by rw [HDP.out, if_neg (fun h => h.1.2.1 HDD.out)])
        clear hp hpos
        go_wp2
        go_ret2
        exact parse_none HON.out HBW.out
      | cons c r =>
        have hse : s.toList.isEmpty = false := by rw [← HS.out, ba_toList]; rfl
        have hp0 : 0 < s.size := by rw [HZ.out]; simp
        have hget : s[0] = c := by
          have h := HS.out
          subst h
          rfl
        obtain ⟨x, hx⟩ : ∃ x : Int, (c.toNat : Int) = x := ⟨_, rfl⟩
        have hgi : ((s[0]).toNat : Int) = x := by rw [hget]; exact hx
        have HX := Lib.hid hx
        clear hp hpos hget hx
        by_cases e1 : x = 48
        · have g1 : (x == 48) = true := by simpa using e1
          by_cases e2 : l = [48]
          · have hs0 : s0.toList = [48] := by rw [← HS0.out, ba_toList, e2]
            have HC := Lib.hid (show canonB l from ⟨by rw [HDD.out]; exact HAL.out, by rw [HDD.out]; simp, fun h => h.2 e2⟩)
            have HCAN := Lib.hid (atoi_canon HC.out)
            clear e1 e2
            rcases HCAN.out with ⟨ha, hv1, hv2⟩ | ⟨ha, hv⟩
            · have HAT := Lib.hid (atoi_ok l s0 HS0.out hl ha wr)
              obtain ⟨v, hv⟩ : ∃ v, decN l = v := ⟨_, rfl⟩
              rw [hv] at hv1 hv2 HAT HDP
              clear hv ha HCAN
              by_cases e5 : v < lo
              · have g5 : decide (v < lo) = true := decide_eq_true e5
                have HON := Lib.hid (show o = none by rw [HDP.out, if_neg (fun h => by have := h.2.1; omega)])
                clear e5
                go_wp2_with fail
                refine HAT.out.mono ?_
                rintro e w4 ⟨rfl, hb4⟩
                have HB4 := Lib.hid hb4
                clear hb4
                go_wp2
                go_ret2
                exact parse_none HON.out (HBW.out.trans (HB4.out.mono (by omega)))
              have g5 : decide (v < lo) = false := decide_eq_false e5
              by_cases e6 : hi < v
              · have g6 : decide (hi < v) = true := decide_eq_true e6
                have HON := Lib.hid (show o = none by rw [HDP.out, if_neg (fun h => by have := h.2.2; omega)])
                clear e5 e6
                go_wp2_with fail
                refine HAT.out.mono ?_
                rintro e w4 ⟨rfl, hb4⟩
                have HB4 := Lib.hid hb4
                clear hb4
                go_wp2
                go_ret2
                exact parse_none HON.out (HBW.out.trans (HB4.out.mono (by omega)))
              have g6 : decide (hi < v) = false := decide_eq_false e6
              have HON := Lib.hid (show o = some v by rw [HDP.out, if_pos ⟨HC.out, by omega, by omega⟩])
              clear e5 e6
              go_wp2_with fail
              refine HAT.out.mono ?_
              rintro e w4 ⟨rfl, hb4⟩
              have HB4 := Lib.hid hb4
              clear hb4
              go_wp2
              go_ret2
              exact parse_some HON.out (HBW.out.trans (HB4.out.mono (by omega)))
            · have HAT := Lib.hid (atoi_range l s0 HS0.out hl ha wr (HEV.out wr HBW.out))
              have HON := Lib.hid (show o = none by rw [HDP.out, if_neg (fun h => by have := h.2; omega)])
              clear ha hv HCAN
              go_wp2_with fail
              refine HAT.out.mono ?_
              rintro e w4 ⟨nn, t, p, rfl, hb4⟩
              have HB4 := Lib.hid hb4
              clear hb4
              go_wp2
              go_ret2
              exact parse_none HON.out (HBW.out.trans (HB4.out.mono (by omega)))
          · have hs0 : (s0.toList == [48]) = false := by
              rw [← HS0.out, ba_toList]
              simpa using e2
            have hs1 : ¬ s0.toList = [48] := by
              rw [← HS0.out, ba_toList]
              exact e2
            have HON := Lib.hid (show o = none by rw [HDP.out, if_neg (fun h => h.1.2.2 ⟨by rw [HDD.out, u8_int_eq'.1 (HX.out.trans e1 : (c.toNat : Int) = ((48 : UInt8).toNat : Int))]; rfl, e2⟩)])
            clear e1 e2
            go_wp2_with fail
            go_ret2
            exact parse_none HON.out HBW.out
        · have g1 : (x == 48) = false := by simpa using e1
          have HC := Lib.hid (show canonB l from ⟨by rw [HDD.out]; exact HAL.out, by rw [HDD.out]; simp, fun h => by
            have h2 := h.1
            rw [HDD.out] at h2
            have h3 : c = 48 := Option.some.inj h2
            exact e1 (by rw [← HX.out, h3]; rfl)⟩)
          have HCAN := Lib.hid (atoi_canon HC.out)
          clear e1
          rcases HCAN.out with ⟨ha, hv1, hv2⟩ | ⟨ha, hv⟩
          · have HAT := Lib.hid (atoi_ok l s0 HS0.out hl ha wr)
            obtain ⟨v, hv⟩ : ∃ v, decN l = v := ⟨_, rfl⟩
            rw [hv] at hv1 hv2 HAT HDP
            clear hv ha HCAN
            by_cases e5 : v < lo
            · have g5 : decide (v < lo) = true := decide_eq_true e5
              have HON := Lib.hid (show o = none by rw [HDP.out, if_neg (fun h => by have := h.2.1; omega)])
              clear e5
              go_wp2_with fail
              refine HAT.out.mono ?_
              rintro e w4 ⟨rfl, hb4⟩
              have HB4 := Lib.hid hb4
              clear hb4
              go_wp2
              go_ret2
              exact parse_none HON.out (HBW.out.trans (HB4.out.mono (by omega)))
            have g5 : decide (v < lo) = false := decide_eq_false e5
            by_cases e6 : hi < v
            · have g6 : decide (hi < v) = true := decide_eq_true e6
              have HON := Lib.hid (show o = none by rw [HDP.out, if_neg (fun h => by have := h.2.2; omega)])
              clear e5 e6
              go_wp2_with fail
              refine HAT.out.mono ?_
              rintro e w4 ⟨rfl, hb4⟩
              have HB4 := Lib.hid hb4
              clear hb4
              go_wp2
              go_ret2
              exact parse_none HON.out (HBW.out.trans (HB4.out.mono (by omega)))
            have g6 : decide (hi < v) = false := decide_eq_false e6
            have HON := Lib.hid (show o = some v by rw [HDP.out, if_pos ⟨HC.out, by omega, by omega⟩])
            clear e5 e6
            go_wp2_with fail
            refine HAT.out.mono ?_
            rintro e w4 ⟨rfl, hb4⟩
            have HB4 := Lib.hid hb4
            clear hb4
            go_wp2
            go_ret2
            exact parse_some HON.out (HBW.out.trans (HB4.out.mono (by omega)))
          · have HAT := Lib.hid (atoi_range l s0 HS0.out hl ha wr (HEV.out wr HBW.out))
            have HON := Lib.hid (show o = none by rw [HDP.out, if_neg (fun h => by have := h.2; omega)])
            clear ha hv HCAN
            go_wp2_with fail
            refine HAT.out.mono ?_
            rintro e w4 ⟨nn, t, p, rfl, hb4⟩
            have HB4 := Lib.hid hb4
            clear hb4
            go_wp2
            go_ret2
            exact parse_none HON.out (HBW.out.trans (HB4.out.mono (by omega)))
end Go.Proofs.YtomcdhmcjndioaaGreatDoor
end
section
namespace Go.Proofs.YtomcdhmcjndioaaGreatDoor
open Go.RowKit
set_option linter.unusedVariables false

/-- Where a quoted string ends whose opening quote stands at a, or -1. -/
def endQ (s : List UInt8) (a : Nat) : Int := if 34 ∈ s.drop (a + 1) then (a : Int) + ((s.drop (a + 1)).takeWhile (· != 34)).length + 2 else -1
theorem while_at : ∀ (r : List UInt8) (k : Nat) (hk : k < r.length), (r.take k).all (· != 34) = true → r[k] = 34 → 34 ∈ r ∧ (r.takeWhile (· != 34)).length = k
  | [], k, hk, _, _ => by simp at hk
  | c :: r, 0, hk, _, h => by
    have hc : c = 34 := h
    subst hc
    exact ⟨List.mem_cons_self, rfl⟩
  | c :: r, k + 1, hk, h1, h2 => by
    rw [List.take_succ_cons, List.all_cons, Bool.and_eq_true] at h1
    obtain ⟨i1, i2⟩ := while_at r k (by simpa using hk) h1.2 h2
    exact ⟨List.mem_cons_of_mem _ i1, by rw [List.takeWhile_cons_of_pos (p := (· != 34)) h1.1, List.length_cons, i2]⟩
theorem end_hit {s : List UInt8} {a k : Nat} (hk : k < (s.drop (a + 1)).length) (h : ((s.drop (a + 1)).take k).all (· != 34) = true) (he : (s.drop (a + 1))[k] = 34) : endQ s a = (a : Int) + k + 2 := by
  obtain ⟨h1, h2⟩ := while_at _ k hk h he
  unfold endQ
  rw [if_pos h1, h2]
theorem end_miss {s : List UInt8} {a : Nat} (h : (s.drop (a + 1)).all (· != 34) = true) : endQ s a = -1 := by
  unfold endQ
  rw [if_neg]
  intro hm
  have := List.all_eq_true.1 h _ hm
  exact absurd this (by decide)
theorem end_step {s : List UInt8} {a j : Nat} (ha : a + 1 ≤ j) (hj : j < s.length) (h : ((s.drop (a + 1)).take (j - (a + 1))).all (· != 34) = true) (hne : s[j] ≠ 34) : ((s.drop (a + 1)).take (j + 1 - (a + 1))).all (· != 34) = true := by
  have hk : j - (a + 1) < (s.drop (a + 1)).length := by rw [List.length_drop]; omega
  rw [show j + 1 - (a + 1) = (j - (a + 1)) + 1 by omega, List.take_succ_eq_append_getElem hk, List.all_append, h, List.getElem_drop]
  simp only [show a + 1 + (j - (a + 1)) = j by omega]
  simpa using hne
theorem end_at {s : List UInt8} {a j : Nat} (ha : a + 1 ≤ j) (hj : j < s.length) (h : ((s.drop (a + 1)).take (j - (a + 1))).all (· != 34) = true) (he : s[j] = 34) : endQ s a = (j : Int) + 1 := by
  have hk : j - (a + 1) < (s.drop (a + 1)).length := by rw [List.length_drop]; omega
  rw [end_hit hk h (by rw [List.getElem_drop]; simp only [show a + 1 + (j - (a + 1)) = j by omega]; exact he)]
  omega
theorem end_none {s : List UInt8} {a : Nat} (ha : a + 1 ≤ s.length) (h : ((s.drop (a + 1)).take (s.length - (a + 1))).all (· != 34) = true) : endQ s a = -1 := by
  refine end_miss ?_
  rw [List.take_of_length_le (by rw [List.length_drop]; omega)] at h
  exact h
set_option maxRecDepth 100000 in
set_option maxHeartbeats 4000000 in
theorem rquoted_any (l : List UInt8) (a : Nat) (w : World) (hl : l.length ≤ 1000000000) (ha : a < l.length) :
    Calls Tryz.prog 33 #[.string (ba l), .int .i64 (a : Int)] w fun e w' => e = .returned (.int .i64 (endQ l a)) ∧ w' = w := by
  obtain ⟨n, hn⟩ : ∃ n, l.length = n := ⟨_, rfl⟩
  have HL := Lib.hid hn
  obtain ⟨s, hs⟩ : ∃ s, ba l = s := ⟨_, rfl⟩
  have HS := Lib.hid hs
  have HZ := Lib.hid (show s.size = n by rw [← hs, ba_size, hn])
  have hsz : (s.size : Int) = n := by rw [HZ.out]
  rw [hs]
  rw [hn] at hl ha
  clear hs hn
  go_enter Tryz.func33, Tryz.ntmps33
  go_wp2
  go_loop [4, 5] (fun b i => ∃ (j : Nat) (y : Value), b = y ∧ a + 1 ≤ j ∧ j ≤ n ∧ i = .int .i64 (j : Int) ∧ Hid (((l.drop (a + 1)).take (j - (a + 1))).all (· != 34) = true)) (fun _ i => n - (intOf i).toNat)
  case atStart => exact ⟨a + 1, _, rfl, Nat.le_refl _, ha, by go_num, Lib.hid (by rw [Nat.sub_self]; rfl)⟩
  case round =>
    obtain ⟨j, y, rfl, hj1, hj, rfl, HR⟩ := hrel
    by_cases hlt : j < n
    · have hk2 : (j : Int) < (n : Int) := by omega
      have hk0 : (0 : Int) ≤ (j : Int) := by omega
      have hks : j < s.size := by rw [HZ.out]; omega
      have hkl : j < l.length := by rw [HL.out]; omega
      have hget : s[j] = l[j] := by
        have h := HS.out
        subst h
        rfl
      have HST := Lib.hid (fun (h : l[j] ≠ 34) => end_step hj1 hkl HR.out h)
      have HAT := Lib.hid (fun (h : l[j] = 34) => end_at hj1 hkl HR.out h)
      obtain ⟨c, hc⟩ : ∃ c, l[j] = c := ⟨_, rfl⟩
      rw [hc] at hget HST HAT
      obtain ⟨x, hx⟩ : ∃ x : Int, (c.toNat : Int) = x := ⟨_, rfl⟩
      have hgi : ((s[j]).toNat : Int) = x := by rw [hget]; exact hx
      have HX := Lib.hid hx
      have hx0 : 0 ≤ x := by omega
      have hx1 : x ≤ 255 := by have := c.toNat_lt; omega
      clear hc hkl hget hx
      by_cases e1 : x = 34
      · have HV := Lib.hid (HAT.out (UInt8.toNat_inj.1 (by have := HX.out; show c.toNat = 34; omega)))
        have g1 : (x == 34) = true := by simpa using e1
        clear e1
        go_wp2
        go_ret
        rw [HV.out]
        exact ⟨by go_num, rfl⟩
      · have HN := Lib.hid (HST.out (fun h => e1 (by rw [← HX.out, h]; rfl)))
        have g1 : (x == 34) = false := by simpa using e1
        clear e1
        go_wp2
        go_round
        case rel => exact ⟨j + 1, _, rfl, by omega, by omega, by go_num, HN⟩
        case measure => simp [intOf] <;> omega
    · obtain rfl : j = n := by omega
      have HV := Lib.hid (end_none (by rw [HL.out]; exact hj1) (by rw [HL.out]; exact HR.out))
      go_wp2
      go_ret
      rw [HV.out]
      exact ⟨rfl, rfl⟩
end Go.Proofs.YtomcdhmcjndioaaGreatDoor
end
