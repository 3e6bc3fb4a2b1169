/- The reference of layer 37: day (printed by gen_rday.py). The reference of layer 37: named (printed by gen_rnamed.py). -/
import Derived.BigQuiet
import Derived.Deep.QuietTactic
import Derived.Test.YtomcdhmcjndioaaGreatDoorV17
section
namespace Go.Proofs.YtomcdhmcjndioaaGreatDoor
open Go.RowKit
set_option linter.unusedVariables false

theorem getD_at {l : List UInt8} {k : Nat} (h : k < l.length) : l.getD k 0 = l[k] := by rw [List.getD_eq_getElem?_getD, List.getElem?_eq_getElem h]; rfl
theorem day_zero : dayQ 1970 1 1 = 0 := by decide
set_option maxRecDepth 100000 in
set_option maxHeartbeats 4000000 in
theorem rday_any (l : List UInt8) (w : World) (hl : l.length ≤ 1000000) :
    Calls Tryz.prog 120 #[.string (ba l)] w (MoPost w (momentQ l)) := by
  have HNO := Lib.hid (@mom_none l)
  have HTE := Lib.hid (@mom_ten l)
  obtain ⟨n, hn⟩ : ∃ n, l.length = n := ⟨_, rfl⟩
  have HL := Lib.hid hn
  obtain ⟨s, hs⟩ : ∃ s, ba l = s := ⟨_, rfl⟩
  have HS := Lib.hid hs
  have HZ := Lib.hid (show s.size = n by rw [← hs, ba_size, hn])
  have hsz : (s.size : Int) = n := by rw [HZ.out]
  rw [hs]
  rw [hn] at hl
  clear hs hn
  by_cases h10 : n = 10
  · have HLT := Lib.hid (show l.length = 10 by rw [HL.out]; exact h10)
    have HS10 := Lib.hid (show s.size = 10 by rw [HZ.out]; exact h10)
    have HBY := Lib.hid (show ∀ (j : Nat) (h : j < s.size), ((s[j]).toNat : Int) = ((l.getD j 0).toNat : Int) from fun j h => by
      have e : l.getD j 0 = l[j]'(by rw [HLT.out, ← HS10.out]; exact h) := getD_at _
      rw [e]
      have h2 := HS.out
      subst h2
      rfl)
    subst h10
    obtain ⟨x0, hx0⟩ : ∃ x : Int, ((l.getD 0 0).toNat : Int) = x := ⟨_, rfl⟩
    have p0 : 0 < s.size := by rw [HS10.out]; decide
    have q0 : ((s[0]).toNat : Int) = x0 := (HBY.out 0 p0).trans hx0
    have X0 := Lib.hid hx0
    have u0 : 0 ≤ x0 := by omega
    have v0 : x0 ≤ 255 := by have := (l.getD 0 0).toNat_lt; omega
    clear hx0
    obtain ⟨x1, hx1⟩ : ∃ x : Int, ((l.getD 1 0).toNat : Int) = x := ⟨_, rfl⟩
    have p1 : 1 < s.size := by rw [HS10.out]; decide
    have q1 : ((s[1]).toNat : Int) = x1 := (HBY.out 1 p1).trans hx1
    have X1 := Lib.hid hx1
    have u1 : 0 ≤ x1 := by omega
    have v1 : x1 ≤ 255 := by have := (l.getD 1 0).toNat_lt; omega
    clear hx1
    obtain ⟨x2, hx2⟩ : ∃ x : Int, ((l.getD 2 0).toNat : Int) = x := ⟨_, rfl⟩
    have p2 : 2 < s.size := by rw [HS10.out]; decide
    have q2 : ((s[2]).toNat : Int) = x2 := (HBY.out 2 p2).trans hx2
    have X2 := Lib.hid hx2
    have u2 : 0 ≤ x2 := by omega
    have v2 : x2 ≤ 255 := by have := (l.getD 2 0).toNat_lt; omega
    clear hx2
    obtain ⟨x3, hx3⟩ : ∃ x : Int, ((l.getD 3 0).toNat : Int) = x := ⟨_, rfl⟩
    have p3 : 3 < s.size := by rw [HS10.out]; decide
    have q3 : ((s[3]).toNat : Int) = x3 := (HBY.out 3 p3).trans hx3
    have X3 := Lib.hid hx3
    have u3 : 0 ≤ x3 := by omega
    have v3 : x3 ≤ 255 := by have := (l.getD 3 0).toNat_lt; omega
    clear hx3
    obtain ⟨x4, hx4⟩ : ∃ x : Int, ((l.getD 4 0).toNat : Int) = x := ⟨_, rfl⟩
    have p4 : 4 < s.size := by rw [HS10.out]; decide
    have q4 : ((s[4]).toNat : Int) = x4 := (HBY.out 4 p4).trans hx4
    have X4 := Lib.hid hx4
    have u4 : 0 ≤ x4 := by omega
    have v4 : x4 ≤ 255 := by have := (l.getD 4 0).toNat_lt; omega
    clear hx4
    obtain ⟨x5, hx5⟩ : ∃ x : Int, ((l.getD 5 0).toNat : Int) = x := ⟨_, rfl⟩
    have p5 : 5 < s.size := by rw [HS10.out]; decide
    have q5 : ((s[5]).toNat : Int) = x5 := (HBY.out 5 p5).trans hx5
    have X5 := Lib.hid hx5
    have u5 : 0 ≤ x5 := by omega
    have v5 : x5 ≤ 255 := by have := (l.getD 5 0).toNat_lt; omega
    clear hx5
    obtain ⟨x6, hx6⟩ : ∃ x : Int, ((l.getD 6 0).toNat : Int) = x := ⟨_, rfl⟩
    have p6 : 6 < s.size := by rw [HS10.out]; decide
    have q6 : ((s[6]).toNat : Int) = x6 := (HBY.out 6 p6).trans hx6
    have X6 := Lib.hid hx6
    have u6 : 0 ≤ x6 := by omega
    have v6 : x6 ≤ 255 := by have := (l.getD 6 0).toNat_lt; omega
    clear hx6
    obtain ⟨x7, hx7⟩ : ∃ x : Int, ((l.getD 7 0).toNat : Int) = x := ⟨_, rfl⟩
    have p7 : 7 < s.size := by rw [HS10.out]; decide
    have q7 : ((s[7]).toNat : Int) = x7 := (HBY.out 7 p7).trans hx7
    have X7 := Lib.hid hx7
    have u7 : 0 ≤ x7 := by omega
    have v7 : x7 ≤ 255 := by have := (l.getD 7 0).toNat_lt; omega
    clear hx7
    obtain ⟨x8, hx8⟩ : ∃ x : Int, ((l.getD 8 0).toNat : Int) = x := ⟨_, rfl⟩
    have p8 : 8 < s.size := by rw [HS10.out]; decide
    have q8 : ((s[8]).toNat : Int) = x8 := (HBY.out 8 p8).trans hx8
    have X8 := Lib.hid hx8
    have u8 : 0 ≤ x8 := by omega
    have v8 : x8 ≤ 255 := by have := (l.getD 8 0).toNat_lt; omega
    clear hx8
    obtain ⟨x9, hx9⟩ : ∃ x : Int, ((l.getD 9 0).toNat : Int) = x := ⟨_, rfl⟩
    have p9 : 9 < s.size := by rw [HS10.out]; decide
    have q9 : ((s[9]).toNat : Int) = x9 := (HBY.out 9 p9).trans hx9
    have X9 := Lib.hid hx9
    have u9 : 0 ≤ x9 := by omega
    have v9 : x9 ≤ 255 := by have := (l.getD 9 0).toNat_lt; omega
    clear hx9
    by_cases h4 : x4 = 45
    · by_cases h7 : x7 = 45
      · have H4 := Lib.hid (show l.getD 4 0 = 45 from UInt8.toNat_inj.1 (by have := X4.out; show _ = 45; omega))
        have H7 := Lib.hid (show l.getD 7 0 = 45 from UInt8.toNat_inj.1 (by have := X7.out; show _ = 45; omega))
        have g4 : (x4 != 45) = false := by simpa using h4
        have g7 : (x7 != 45) = false := by simpa using h7
        clear h4 h7
        go_enter Tryz.func120, Tryz.ntmps120
        go_wp2
        go_loop [4] (fun i => ∃ k : Nat, k ≤ 10 ∧ i = .int .i64 (k : Int) ∧ Hid (DigRel l k)) (fun i => 10 - (intOf i).toNat)
        case atStart => exact ⟨0, by omega, rfl, Lib.hid (fun j hj => by omega)⟩
        case round =>
          obtain ⟨k, hk, rfl, HR⟩ := hrel
          by_cases hlt : k < 10
          · have hk2 : (k : Int) < 10 := by omega
            have hk0 : (0 : Int) ≤ (k : Int) := by omega
            have hks : k < s.size := by rw [HS10.out]; exact hlt
            obtain ⟨y, hy⟩ : ∃ y : Int, ((l.getD k 0).toNat : Int) = y := ⟨_, rfl⟩
            have hgi : ((s[k]).toNat : Int) = y := (HBY.out k hks).trans hy
            have HY := Lib.hid hy
            have y0 : 0 ≤ y := by omega
            have y1 : y ≤ 255 := by have := (l.getD k 0).toNat_lt; omega
            clear hy
            by_cases k4 : k = 4
            · have HG := Lib.hid (digRel_step HR.out (.inl k4))
              have e4 : ((k : Int) != 4) = false := by simp; omega
              clear k4
              go_wp2
              go_round
              case rel => exact ⟨k + 1, by omega, by go_num, HG⟩
              case measure => simp [intOf] <;> omega
            · have e4 : ((k : Int) != 4) = true := by simp; omega
              by_cases k7 : k = 7
              · have HG := Lib.hid (digRel_step HR.out (.inr (.inl k7)))
                have e7 : ((k : Int) != 7) = false := by simp; omega
                clear k4 k7
                go_wp2
                go_round
                case rel => exact ⟨k + 1, by omega, by go_num, HG⟩
                case measure => simp [intOf] <;> omega
              · have e7 : ((k : Int) != 7) = true := by simp; omega
                by_cases d1 : y < 48
                · have HN := Lib.hid (HNO.out (fun h => by
                    have := digit_int (h.2.2.2 k hlt k4 k7)
                    rw [HY.out] at this
                    omega))
                  have b1 : decide (y < 48) = true := decide_eq_true d1
                  clear k4 k7
                  go_wp2
                  go_ret2
                  exact mo_end (by rw [HN.out]; rfl) (fun n h => by rw [HN.out] at h; cases h) (by omega) (by omega) (Below.refl _ _)
                · have b1 : decide (y < 48) = false := decide_eq_false d1
                  by_cases d2 : 57 < y
                  · have HN := Lib.hid (HNO.out (fun h => by
                      have := digit_int (h.2.2.2 k hlt k4 k7)
                      rw [HY.out] at this
                      omega))
                    have b2 : decide (57 < y) = true := decide_eq_true d2
                    clear k4 k7
                    go_wp2
                    go_ret2
                    exact mo_end (by rw [HN.out]; rfl) (fun n h => by rw [HN.out] at h; cases h) (by omega) (by omega) (Below.refl _ _)
                  · have b2 : decide (57 < y) = false := decide_eq_false d2
                    have HG := Lib.hid (digRel_step HR.out (.inr (.inr (digit_of (by rw [HY.out]; omega) (by rw [HY.out]; omega)))))
                    clear k4 k7
                    go_wp2
                    go_round
                    case rel => exact ⟨k + 1, by omega, by go_num, HG⟩
                    case measure => simp [intOf] <;> omega
          · obtain rfl : k = 10 := by omega
            have HDG := Lib.hid HR.out
            have HT := Lib.hid (HTE.out HLT.out H4.out H7.out HDG.out)
            obtain ⟨Y, M, D, hmq, hY9, hM9, hD9, hY, hM, hD⟩ := HT.out
            simp only [X0.out, X1.out, X2.out, X3.out] at hY
            simp only [X5.out, X6.out] at hM
            simp only [X8.out, X9.out] at hD
            have HMQ := Lib.hid hmq
            obtain ⟨m0, n0⟩ := digit_int (HDG.out 0 (by decide) (by decide) (by decide))
            rw [X0.out] at m0 n0
            obtain ⟨m1, n1⟩ := digit_int (HDG.out 1 (by decide) (by decide) (by decide))
            rw [X1.out] at m1 n1
            obtain ⟨m2, n2⟩ := digit_int (HDG.out 2 (by decide) (by decide) (by decide))
            rw [X2.out] at m2 n2
            obtain ⟨m3, n3⟩ := digit_int (HDG.out 3 (by decide) (by decide) (by decide))
            rw [X3.out] at m3 n3
            obtain ⟨m5, n5⟩ := digit_int (HDG.out 5 (by decide) (by decide) (by decide))
            rw [X5.out] at m5 n5
            obtain ⟨m6, n6⟩ := digit_int (HDG.out 6 (by decide) (by decide) (by decide))
            rw [X6.out] at m6 n6
            obtain ⟨m8, n8⟩ := digit_int (HDG.out 8 (by decide) (by decide) (by decide))
            rw [X8.out] at m8 n8
            obtain ⟨m9, n9⟩ := digit_int (HDG.out 9 (by decide) (by decide) (by decide))
            rw [X9.out] at m9 n9
            have hY' := hY.symm
            have hM' := hM.symm
            have hD' := hD.symm
            have HYE := Lib.hid hY'
            have HME := Lib.hid hM'
            have HDE := Lib.hid hD'
            clear hmq hY hM hD hlt HT u4 v4 u7 v7 hY' hM' hD'
            go_wp2
            go_quiet (fail)
            go_wp2
            go_quiet (fail)
            go_wp2
            go_quiet (fail)
            go_wp2_with fail
            rw [HYE.out, HME.out, HDE.out]
            refine (rdays_any Y M D (by omega) (by omega) (by omega) _).mono ?_
            rintro e w1 ⟨rfl, hb1⟩
            have HB1 := Lib.hid (show Below w.heap.size w w1 from (below_drewN w _).trans hb1)
            have z1 := HB1.out.size
            clear hb1
            cases hdt : dateB Y M D with
            | true =>
              have HV := Lib.hid (show momentQ l = some (86400 * dayQ Y M D) by rw [HMQ.out, if_pos hdt])
              have HDQ := Lib.hid (show daysQ Y M D = dayQ Y M D by unfold daysQ; rw [if_pos hdt])
              obtain ⟨b1, b2⟩ := day_bd hdt
              have HC := Lib.hid (rcivil_any Y M D hdt w1)
              rw [HDQ.out]
              obtain ⟨V, hV⟩ : ∃ V, dayQ Y M D = V := ⟨_, rfl⟩
              rw [hV] at HV HC b1 b2 ⊢
              clear hdt hV HDQ
              go_wp2_with fail
              refine HC.out.mono ?_
              rintro e w2 ⟨rfl, hb2⟩
              have HB2 := Lib.hid (HB1.out.trans (hb2.mono z1))
              clear hb2
              go_wp2
              go_ret2
              exact mo_end (by rw [HV.out]; rfl) (fun n h => by rw [HV.out] at h; injection h) (by omega) (by omega) HB2.out
            | false =>
              have HV := Lib.hid (show momentQ l = none by rw [HMQ.out, if_neg (by rw [hdt]; decide)])
              have HDQ := Lib.hid (show daysQ Y M D = 0 by unfold daysQ; rw [if_neg (by rw [hdt]; decide)])
              have HC := Lib.hid (show Calls Tryz.prog 134 #[.int .i64 0] w1 fun e w' => e = .returned (.tuple #[.int .i64 1970, .int .i64 1, .int .i64 1]) ∧ Below w1.heap.size w1 w' from by
                have h := rcivil_any 1970 1 1 (by decide) w1
                rw [day_zero] at h
                exact h)
              have HNE := Lib.hid (show ¬ (Y = 1970 ∧ M = 1 ∧ D = 1) from fun h => by
                rw [h.1, h.2.1, h.2.2] at hdt
                exact absurd hdt (by decide))
              rw [HDQ.out]
              clear hdt HDQ
              by_cases c1 : Y = 1970
              · have k1 : ((1970 : Int) == (Y : Int)) = true := by rw [c1]; rfl
                by_cases c2 : M = 1
                · have k2 : ((1 : Int) == (M : Int)) = true := by rw [c2]; rfl
                  have k3 : ((1 : Int) == (D : Int)) = false := by
                    simp only [beq_eq_false_iff_ne]
                    intro h
                    exact HNE.out ⟨c1, c2, by omega⟩
                  clear c1 c2
                  go_wp2_with fail
                  refine HC.out.mono ?_
                  rintro e w2 ⟨rfl, hb2⟩
                  have HB2 := Lib.hid (HB1.out.trans (hb2.mono z1))
                  clear hb2
                  go_wp2
                  go_ret2
                  exact mo_end (by rw [HV.out]; rfl) (fun n h => by rw [HV.out] at h; cases h) (by omega) (by omega) HB2.out
                · have k2 : ((1 : Int) == (M : Int)) = false := by simp only [beq_eq_false_iff_ne]; omega
                  clear c1 c2
                  go_wp2_with fail
                  refine HC.out.mono ?_
                  rintro e w2 ⟨rfl, hb2⟩
                  have HB2 := Lib.hid (HB1.out.trans (hb2.mono z1))
                  clear hb2
                  go_wp2
                  go_ret2
                  exact mo_end (by rw [HV.out]; rfl) (fun n h => by rw [HV.out] at h; cases h) (by omega) (by omega) HB2.out
              · have k1 : ((1970 : Int) == (Y : Int)) = false := by simp only [beq_eq_false_iff_ne]; omega
                clear c1
                go_wp2_with fail
                refine HC.out.mono ?_
                rintro e w2 ⟨rfl, hb2⟩
                have HB2 := Lib.hid (HB1.out.trans (hb2.mono z1))
                clear hb2
                go_wp2
                go_ret2
                exact mo_end (by rw [HV.out]; rfl) (fun n h => by rw [HV.out] at h; cases h) (by omega) (by omega) HB2.out
      · have HN := Lib.hid (HNO.out (fun h => h7 (by rw [← X7.out, h.2.2.1]; rfl)))
        have g7 : (x7 != 45) = true := by simpa using h7
        have g4 : (x4 != 45) = false := by simpa using h4
        clear h4 h7
        go_enter Tryz.func120, Tryz.ntmps120
        go_wp2
        go_ret2
        exact mo_end (by rw [HN.out]; rfl) (fun n h => by rw [HN.out] at h; cases h) (by omega) (by omega) (Below.refl _ _)
    · have HN := Lib.hid (HNO.out (fun h => h4 (by rw [← X4.out, h.2.1]; rfl)))
      have g4 : (x4 != 45) = true := by simpa using h4
      clear h4
      go_enter Tryz.func120, Tryz.ntmps120
      go_wp2
      go_ret2
      exact mo_end (by rw [HN.out]; rfl) (fun n h => by rw [HN.out] at h; cases h) (by omega) (by omega) (Below.refl _ _)
  · have HN := Lib.hid (HNO.out (fun h => h10 (by rw [← HL.out]; exact h.1)))
    have g1 : ((n : Int) != 10) = true := by simp; omega
    clear h10
    go_enter Tryz.func120, Tryz.ntmps120
    go_wp2
    go_ret2
    exact mo_end (by rw [HN.out]; rfl) (fun n h => by rw [HN.out] at h; cases h) (by omega) (by omega) (Below.refl _ _)
end Go.Proofs.YtomcdhmcjndioaaGreatDoor
end
section
namespace Go.Proofs.YtomcdhmcjndioaaGreatDoor
open Go.RowKit
set_option linter.unusedVariables false

theorem times_bd (l : List UInt8) : timesQ l = 1024 ∨ timesQ l = 1048576 ∨ timesQ l = 1 := by
  unfold timesQ
  repeat' split
  all_goals simp
theorem size_bd {l : List UInt8} {x : Int} (h : sizeQ l = some x) : 0 ≤ x ∧ x ≤ 1099511627776 := by
  rw [sizeQ_eq] at h
  obtain ⟨v, hv, rfl⟩ := Option.map_eq_some_iff.1 h
  have h1 := decP_bd hv
  rcases times_bd l with h2 | h2 | h2 <;> rw [h2] <;> omega
set_option maxRecDepth 100000 in
set_option maxHeartbeats 4000000 in
theorem rnamed_is (v : List UInt8) (w : World) (hl : v.length ≤ 1000000) :
    Calls Tryz.prog 101 #[.string ⟨#[105, 115]⟩, .string (ba v)] w (LfPost w (if flagQ (smallP v) then some (.mk 5 0 (smallP v) 0 []) else none)) := by
  have HSM := Lib.hid (fun W => rqsmall_any v W (by omega))
  unfold StrB at HSM
  have HFL := Lib.hid (fun W => rflag_any (smallP v) W (by rw [smallP_len]; omega))
  obtain ⟨t, ht⟩ : ∃ t, smallP v = t := ⟨_, rfl⟩
  simp only [ht] at HSM HFL
  rw [ht]
  clear ht
  obtain ⟨b, hb⟩ : ∃ b, flagQ t = b := ⟨_, rfl⟩
  simp only [hb] at HFL
  rw [hb]
  clear hb
  obtain ⟨O, hO⟩ : ∃ O : Option Qry, (if b then some (.mk 5 0 t 0 []) else none) = O := ⟨_, rfl⟩
  have HO := Lib.hid hO
  rw [hO]
  clear hO
  have HZ0 := Lib.hid (qzAt_new w)
  go_enter Tryz.func101, Tryz.ntmps101
  go_wp2_with fail
  refine (HSM.out _).mono ?_
  rintro e w1 ⟨rfl, hb1⟩
  have HB1 := Lib.hid ((qz_below w).trans (hb1.mono (by simp)))
  have HZ1 := Lib.hid (HZ0.out.below hb1 (by simp))
  have z1 : w.heap.size < w1.heap.size := by have := hb1.size; simp at this; omega
  clear hb1
  go_wp2_with fail
  refine (HSM.out w1).mono ?_
  rintro e w2 ⟨rfl, hb2⟩
  have HB2 := Lib.hid (HB1.out.trans (hb2.mono HB1.out.size))
  have HZ2 := Lib.hid (HZ1.out.below hb2 z1)
  have z2 : w.heap.size < w2.heap.size := by have := hb2.size; omega
  clear hb2
  go_wp2_with fail
  refine (HFL.out w2).mono ?_
  rintro e w3 ⟨rfl, rfl⟩
  obtain ⟨r0, r1, r2, r3, r4, rf⟩ := HZ2.out.cells
  go_wp2
  refine bodyPost_ret (v := .tuple #[.agg #[.int .i64 5, .int .i64 0, .string (ba t), .int .i64 0, .slice none 0 0], .bool b]) (by simp [results, Tryz.results101, go_sem, r0, r1, r2, r3, r4]) rfl ?_
  refine lf_end (fun q h => ?_) ?_ rfl ?_ (leaf_ok (by omega) (by omega) (by omega))
  · rw [← HO.out] at h
    cases b with
    | true => injection h with h; exact h.symm
    | false => cases h
  · rw [← HO.out]
    cases b <;> rfl
  repeat (first | (with_reducible exact HB2.out) | refine Below.setCell ?_ (by simp) _)
set_option maxRecDepth 100000 in
set_option maxHeartbeats 4000000 in
theorem rnamed_in (v : List UInt8) (w : World) (hl : v.length ≤ 1000000) :
    Calls Tryz.prog 101 #[.string ⟨#[105, 110]⟩, .string (ba v)] w (LfPost w ((decP v 1 1099511627776).map fun n => .mk 6 0 [] n [])) := by
  have HPA := Lib.hid (show ∀ W, Calls Tryz.prog 118 #[.string (ba v), .int .i64 1, .int .i64 1099511627776] W (ParsePost W (decP v 1 1099511627776)) from fun W => by
    by_cases hh : v.head? = some 45
    · exact rparse_neg v 1 1099511627776 W (by omega) hh (by omega) (by omega) (by omega) (by omega)
    · exact rparse_pos v hh 1 1099511627776 W (by omega) (by omega) (by omega))
  unfold ParsePost at HPA
  obtain ⟨o, ho⟩ : ∃ o, decP v 1 1099511627776 = o := ⟨_, rfl⟩
  have HBD := Lib.hid (fun x (h : o = some x) => decP_bd (ho.trans h))
  simp only [ho] at HPA
  rw [ho]
  clear ho
  have HZ0 := Lib.hid (qzAt_new w)
  go_enter Tryz.func101, Tryz.ntmps101
  go_wp2_with fail
  refine (HPA.out _).mono ?_
  rintro e w1 ⟨rfl, hb1⟩
  have HB1 := Lib.hid ((qz_below w).trans (hb1.mono (by simp)))
  have HZ1 := Lib.hid (HZ0.out.below hb1 (by simp))
  have z1 : w.heap.size < w1.heap.size := by have := hb1.size; simp at this; omega
  clear hb1
  obtain ⟨r0, r1, r2, r3, r4, rf⟩ := HZ1.out.cells
  cases o with
  | none =>
    go_wp2
    refine bodyPost_ret (v := .tuple #[.agg #[.int .i64 6, .int .i64 0, .string ⟨#[]⟩, .int .i64 0, .slice none 0 0], .bool false]) (by simp [results, Tryz.results101, go_sem, r0, r1, r2, r3, r4]) rfl ?_
    refine lf_none (t := []) rfl rfl ?_ (leaf_ok (by omega) (by omega) (by omega))
    repeat (first | (with_reducible exact HB1.out) | refine Below.setCell ?_ (by simp) _)
  | some x =>
    obtain ⟨x0, x1⟩ := HBD.out x rfl
    go_wp2
    refine bodyPost_ret (v := .tuple #[.agg #[.int .i64 6, .int .i64 0, .string ⟨#[]⟩, .int .i64 x, .slice none 0 0], .bool true]) (by simp [results, Tryz.results101, go_sem, r0, r1, r2, r3, r4]) rfl ?_
    refine lf_some (t := []) rfl rfl rfl ?_ (leaf_ok (by omega) (by omega) (by omega))
    repeat (first | (with_reducible exact HB1.out) | refine Below.setCell ?_ (by simp) _)
set_option maxRecDepth 100000 in
set_option maxHeartbeats 4000000 in
theorem rnamed_larger (v : List UInt8) (w : World) (hl : v.length ≤ 1000000) :
    Calls Tryz.prog 101 #[.string ⟨#[108, 97, 114, 103, 101, 114]⟩, .string (ba v)] w (LfPost w ((sizeQ v).map fun n => .mk 9 0 [] n [])) := by
  have HSZ := Lib.hid (fun W => rsize_any v W hl)
  unfold SzPost at HSZ
  cases hs : sizeQ v with
  | none =>
    simp only [hs] at HSZ
    clear hs
    have HZ0 := Lib.hid (qzAt_new w)
    go_enter Tryz.func101, Tryz.ntmps101
    go_wp2_with fail
    refine (HSZ.out _).mono ?_
    rintro e w1 ⟨rfl, hb1⟩
    have HB1 := Lib.hid ((qz_below w).trans (hb1.mono (by simp)))
    have HZ1 := Lib.hid (HZ0.out.below hb1 (by simp))
    have z1 : w.heap.size < w1.heap.size := by have := hb1.size; simp at this; omega
    clear hb1
    go_wp2_with fail
    refine (HSZ.out w1).mono ?_
    rintro e w2 ⟨rfl, hb2⟩
    have HB2 := Lib.hid (HB1.out.trans (hb2.mono HB1.out.size))
    have HZ2 := Lib.hid (HZ1.out.below hb2 z1)
    have z2 : w.heap.size < w2.heap.size := by have := hb2.size; omega
    clear hb2
    obtain ⟨r0, r1, r2, r3, r4, rf⟩ := HZ2.out.cells
    go_wp2
    refine bodyPost_ret (v := .tuple #[.agg #[.int .i64 9, .int .i64 0, .string ⟨#[]⟩, .int .i64 (-1), .slice none 0 0], .bool false]) (by simp [results, Tryz.results101, go_sem, r0, r1, r2, r3, r4]) rfl ?_
    refine lf_none (t := []) rfl rfl ?_ (leaf_ok (by omega) (by omega) (by omega))
    repeat (first | (with_reducible exact HB2.out) | refine Below.setCell ?_ (by simp) _)
  | some x =>
    simp only [hs] at HSZ
    obtain ⟨x0, x1⟩ := size_bd hs
    clear hs
    have HZ0 := Lib.hid (qzAt_new w)
    go_enter Tryz.func101, Tryz.ntmps101
    go_wp2_with fail
    refine (HSZ.out _).mono ?_
    rintro e w1 ⟨rfl, hb1⟩
    have HB1 := Lib.hid ((qz_below w).trans (hb1.mono (by simp)))
    have HZ1 := Lib.hid (HZ0.out.below hb1 (by simp))
    have z1 : w.heap.size < w1.heap.size := by have := hb1.size; simp at this; omega
    clear hb1
    go_wp2_with fail
    refine (HSZ.out w1).mono ?_
    rintro e w2 ⟨rfl, hb2⟩
    have HB2 := Lib.hid (HB1.out.trans (hb2.mono HB1.out.size))
    have HZ2 := Lib.hid (HZ1.out.below hb2 z1)
    have z2 : w.heap.size < w2.heap.size := by have := hb2.size; omega
    clear hb2
    obtain ⟨r0, r1, r2, r3, r4, rf⟩ := HZ2.out.cells
    go_wp2
    refine bodyPost_ret (v := .tuple #[.agg #[.int .i64 9, .int .i64 0, .string ⟨#[]⟩, .int .i64 x, .slice none 0 0], .bool true]) (by simp [results, Tryz.results101, go_sem, r0, r1, r2, r3, r4]) rfl ?_
    refine lf_some (t := []) rfl rfl rfl ?_ (leaf_ok (by omega) (by omega) (by omega))
    repeat (first | (with_reducible exact HB2.out) | refine Below.setCell ?_ (by simp) _)
set_option maxRecDepth 100000 in
set_option maxHeartbeats 4000000 in
theorem rnamed_smaller (v : List UInt8) (w : World) (hl : v.length ≤ 1000000) :
    Calls Tryz.prog 101 #[.string ⟨#[115, 109, 97, 108, 108, 101, 114]⟩, .string (ba v)] w (LfPost w ((sizeQ v).map fun n => .mk 10 0 [] n [])) := by
  have HSZ := Lib.hid (fun W => rsize_any v W hl)
  unfold SzPost at HSZ
  cases hs : sizeQ v with
  | none =>
    simp only [hs] at HSZ
    clear hs
    have HZ0 := Lib.hid (qzAt_new w)
    go_enter Tryz.func101, Tryz.ntmps101
    go_wp2_with fail
    refine (HSZ.out _).mono ?_
    rintro e w1 ⟨rfl, hb1⟩
    have HB1 := Lib.hid ((qz_below w).trans (hb1.mono (by simp)))
    have HZ1 := Lib.hid (HZ0.out.below hb1 (by simp))
    have z1 : w.heap.size < w1.heap.size := by have := hb1.size; simp at this; omega
    clear hb1
    go_wp2_with fail
    refine (HSZ.out w1).mono ?_
    rintro e w2 ⟨rfl, hb2⟩
    have HB2 := Lib.hid (HB1.out.trans (hb2.mono HB1.out.size))
    have HZ2 := Lib.hid (HZ1.out.below hb2 z1)
    have z2 : w.heap.size < w2.heap.size := by have := hb2.size; omega
    clear hb2
    obtain ⟨r0, r1, r2, r3, r4, rf⟩ := HZ2.out.cells
    go_wp2
    refine bodyPost_ret (v := .tuple #[.agg #[.int .i64 10, .int .i64 0, .string ⟨#[]⟩, .int .i64 (-1), .slice none 0 0], .bool false]) (by simp [results, Tryz.results101, go_sem, r0, r1, r2, r3, r4]) rfl ?_
    refine lf_none (t := []) rfl rfl ?_ (leaf_ok (by omega) (by omega) (by omega))
    repeat (first | (with_reducible exact HB2.out) | refine Below.setCell ?_ (by simp) _)
  | some x =>
    simp only [hs] at HSZ
    obtain ⟨x0, x1⟩ := size_bd hs
    clear hs
    have HZ0 := Lib.hid (qzAt_new w)
    go_enter Tryz.func101, Tryz.ntmps101
    go_wp2_with fail
    refine (HSZ.out _).mono ?_
    rintro e w1 ⟨rfl, hb1⟩
    have HB1 := Lib.hid ((qz_below w).trans (hb1.mono (by simp)))
    have HZ1 := Lib.hid (HZ0.out.below hb1 (by simp))
    have z1 : w.heap.size < w1.heap.size := by have := hb1.size; simp at this; omega
    clear hb1
    go_wp2_with fail
    refine (HSZ.out w1).mono ?_
    rintro e w2 ⟨rfl, hb2⟩
    have HB2 := Lib.hid (HB1.out.trans (hb2.mono HB1.out.size))
    have HZ2 := Lib.hid (HZ1.out.below hb2 z1)
    have z2 : w.heap.size < w2.heap.size := by have := hb2.size; omega
    clear hb2
    obtain ⟨r0, r1, r2, r3, r4, rf⟩ := HZ2.out.cells
    go_wp2
    refine bodyPost_ret (v := .tuple #[.agg #[.int .i64 10, .int .i64 0, .string ⟨#[]⟩, .int .i64 x, .slice none 0 0], .bool true]) (by simp [results, Tryz.results101, go_sem, r0, r1, r2, r3, r4]) rfl ?_
    refine lf_some (t := []) rfl rfl rfl ?_ (leaf_ok (by omega) (by omega) (by omega))
    repeat (first | (with_reducible exact HB2.out) | refine Below.setCell ?_ (by simp) _)
set_option maxRecDepth 100000 in
set_option maxHeartbeats 4000000 in
theorem rnamed_before (v : List UInt8) (w : World) (hl : v.length ≤ 1000000) :
    Calls Tryz.prog 101 #[.string ⟨#[98, 101, 102, 111, 114, 101]⟩, .string (ba v)] w (LfPost w ((momentQ v).map fun n => .mk 7 0 [] n [])) := by
  have HMO := Lib.hid (fun W => rday_any v W hl)
  have HZ0 := Lib.hid (qzAt_new w)
  go_enter Tryz.func101, Tryz.ntmps101
  go_wp2_with fail
  refine (HMO.out _).mono ?_
  rintro e w1 ⟨x, rfl, hb1, hx, x0, x1⟩
  have HX := Lib.hid hx
  clear hx
  have HB1 := Lib.hid ((qz_below w).trans (hb1.mono (by simp)))
  have HZ1 := Lib.hid (HZ0.out.below hb1 (by simp))
  have z1 : w.heap.size < w1.heap.size := by have := hb1.size; simp at this; omega
  clear hb1
  obtain ⟨r0, r1, r2, r3, r4, rf⟩ := HZ1.out.cells
  go_wp2
  refine bodyPost_ret (v := .tuple #[.agg #[.int .i64 7, .int .i64 0, .string ⟨#[]⟩, .int .i64 x, .slice none 0 0], .bool (momentQ v).isSome]) (by simp [results, Tryz.results101, go_sem, r0, r1, r2, r3, r4]) rfl ?_
  refine lf_end (t := []) (fun q h => ?_) (by cases momentQ v <;> rfl) rfl ?_ (leaf_ok (by omega) (by omega) (by omega))
  · obtain ⟨n, hn, rfl⟩ := Option.map_eq_some_iff.1 h
    rw [HX.out n hn]
  repeat (first | (with_reducible exact HB1.out) | refine Below.setCell ?_ (by simp) _)
set_option maxRecDepth 100000 in
set_option maxHeartbeats 4000000 in
theorem rnamed_after (v : List UInt8) (w : World) (hl : v.length ≤ 1000000) :
    Calls Tryz.prog 101 #[.string ⟨#[97, 102, 116, 101, 114]⟩, .string (ba v)] w (LfPost w ((momentQ v).map fun n => .mk 8 0 [] n [])) := by
  have HMO := Lib.hid (fun W => rday_any v W hl)
  have HZ0 := Lib.hid (qzAt_new w)
  go_enter Tryz.func101, Tryz.ntmps101
  go_wp2_with fail
  refine (HMO.out _).mono ?_
  rintro e w1 ⟨x, rfl, hb1, hx, x0, x1⟩
  have HX := Lib.hid hx
  clear hx
  have HB1 := Lib.hid ((qz_below w).trans (hb1.mono (by simp)))
  have HZ1 := Lib.hid (HZ0.out.below hb1 (by simp))
  have z1 : w.heap.size < w1.heap.size := by have := hb1.size; simp at this; omega
  clear hb1
  obtain ⟨r0, r1, r2, r3, r4, rf⟩ := HZ1.out.cells
  go_wp2
  refine bodyPost_ret (v := .tuple #[.agg #[.int .i64 8, .int .i64 0, .string ⟨#[]⟩, .int .i64 x, .slice none 0 0], .bool (momentQ v).isSome]) (by simp [results, Tryz.results101, go_sem, r0, r1, r2, r3, r4]) rfl ?_
  refine lf_end (t := []) (fun q h => ?_) (by cases momentQ v <;> rfl) rfl ?_ (leaf_ok (by omega) (by omega) (by omega))
  · obtain ⟨n, hn, rfl⟩ := Option.map_eq_some_iff.1 h
    rw [HX.out n hn]
  repeat (first | (with_reducible exact HB1.out) | refine Below.setCell ?_ (by simp) _)
end Go.Proofs.YtomcdhmcjndioaaGreatDoor
end
