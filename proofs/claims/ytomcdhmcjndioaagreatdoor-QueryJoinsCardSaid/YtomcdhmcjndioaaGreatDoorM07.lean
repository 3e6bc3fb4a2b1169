/- Layer 7: Civil, Days. Layer 37: Text, Pad, count, sized, dated at the constants that the laws' small() writes. The package variables as the rows of layer 37 lay them; a world that meets the condition. Maps of the call's own, told key by key (no range): strings as keys. A row of strings of the call's own, and append of one string. append of a row of strings onto a slice of the call's own. A query's own words in memory: one struct, its kids a slice. Rows of pouch/api.Query in memory: read, owned, grown by one or by a row (printed by gen_row.py). A query's tree in memory. -/
import Derived.Lib.AppendIntMem
import Derived.Lib.LaidTab
import Derived.Lay
import Derived.PinnedBridge
import Derived.Stop.LaidErr
import Derived.Deep.DeepHandedRow
import Derived.ChangeMaps5
import Derived.Maps.OwnSet
import Derived.Maps.OwnOps
import Derived.Maps.Views
import Derived.WideKeyEntry
import Derived.DeepKeys4
import Derived.Test.YtomcdhmcjndioaaGreatDoorM05
import Derived.Test.YtomcdhmcjndioaaGreatDoorM06
import Derived.Test.YtomcdhmcjndioaaGreatDoorM04
import Derived.Test.YtomcdhmcjndioaaGreatDoorM01
import Derived.Test.YtomcdhmcjndioaaGreatDoorM03
section
namespace Go.Proofs.YtomcdhmcjndioaaGreatDoor
open Go.RowKit
set_option linter.unusedVariables false

set_option maxRecDepth 100000 in
set_option maxHeartbeats 4000000 in
theorem dcivil_any (y m d : Nat) (h : dateB y m d = true) (w : World) : Calls Tryz.prog 89 #[.int .i64 (dayQ y m d)] w (CivPost w y m d) := by
  unfold CivPost
  have hin := day_in h
  have hcv := civ_dayp h
  obtain ⟨V, hV⟩ : ∃ V, dayQ y m d = V := ⟨_, rfl⟩
  rw [hV] at hcv hin ⊢
  obtain ⟨n, hn⟩ : ∃ n : Nat, V + 719468 = (n : Int) := ⟨(V + 719468).toNat, by omega⟩
  have hn4 : n ≤ 4000000 := by omega
  obtain ⟨q, o, Y, i, K, e1, e2, e3, e4, e5, o0, o1, Y0, Y1, i0, i1, K0, K1, q0, q1, r1, r2, r3⟩ := hcv
  rw [hn] at e1 e2
  have HDV2 := Lib.hid (fun W => ddiv146097_any n (by omega) W)
  rw [e1, e2] at HDV2
  have HR := Lib.hid (And.intro r1 (And.intro r2 r3))
  have hk3 : decide ((K + 2) % 12 + 1 < 3) = decide ((K + 2) % 12 + 1 < 3) := rfl
  clear e1 e2 r1 r2 r3 hk3
  have hin1 := hin.2.2.1
  have hin2 := hin.2.2.2
  have g1 : decide (V < -719162) = false := decide_eq_false (by omega)
  have g2 : decide (2932896 < V) = false := decide_eq_false (by omega)
  clear hV h hin
  go_enter Tryz.func89, Tryz.ntmps89
  go_wp2_with fail
  refine (HDV2.out w).mono ?_
  rintro e w1 ⟨rfl, hb1⟩
  have HB1 := Lib.hid hb1
  clear hb1 HDV2
  go_wp2
  all_goals
    go_ret3
    obtain ⟨r1, r2, r3⟩ := HR.out
    refine ⟨?_, HB1.out⟩
    rw [← r1, ← r2, ← r3]
    first | rw [if_pos (by omega)] | rw [if_neg (by omega), Int.add_zero]
    rfl
theorem date_next {y m d : Nat} (h1 : 1 ≤ y) (h2 : y ≤ 9999) (h3 : 1 ≤ m) (h4 : m ≤ 12) (h5 : 1 ≤ d) (h6 : d ≤ 31) (h : dateB y m d = false) : cntP y m d = dayQ y (m + 1) (d - monQ y m) ∧ dateB y (m + 1) (d - monQ y m) = true := by
  have hd : monQ y m < d := by
    rcases (show d ≤ monQ y m ∨ monQ y m < d by omega) with h7 | h7
    · unfold dateB at h
      rw [decide_eq_true h1, decide_eq_true h2, decide_eq_true h3, decide_eq_true h4, decide_eq_true h5, decide_eq_true h7] at h
      cases h
    · exact h7
  have hm : m ≠ 12 := by rintro rfl; have : monQ y 12 = 31 := rfl; omega
  have hb := mon_le y m
  have hb2 := mon_le y (m + 1)
  have hc : dayQ y m d = dayQ y (m + 1) (d - monQ y m) := by
    rw [day_year, day_year, cum_step y m h3]
    omega
  refine ⟨by rw [cnt_day y m d h1 h3 h4 h5, hc], ?_⟩
  unfold dateB
  simp only [Bool.and_eq_true, decide_eq_true_eq]
  omega
set_option maxRecDepth 100000 in
set_option maxHeartbeats 4000000 in
theorem ddays_any (y m d : Nat) (hy : y ≤ 100000) (hm : m ≤ 100000) (hd : d ≤ 100000) (w : World) : Calls Tryz.prog 130 #[.int .i64 (y : Int), .int .i64 (m : Int), .int .i64 (d : Int)] w (DayPost w (daysQ y m d)) := by
  unfold DayPost
  by_cases h1 : 1 ≤ y ∧ y ≤ 9999 ∧ 1 ≤ m ∧ m ≤ 12 ∧ 1 ≤ d ∧ d ≤ 31
  · obtain ⟨a1, a2, a3, a4, a5, a6⟩ := h1
    have g1 : decide ((y : Int) < 1) = false := decide_eq_false (by omega)
    have g2 : decide ((9999 : Int) < (y : Int)) = false := decide_eq_false (by omega)
    have g3 : decide ((m : Int) < 1) = false := decide_eq_false (by omega)
    have g4 : decide ((12 : Int) < (m : Int)) = false := decide_eq_false (by omega)
    have g5 : decide ((d : Int) < 1) = false := decide_eq_false (by omega)
    have g6 : decide ((31 : Int) < (d : Int)) = false := decide_eq_false (by omega)
    have HCO := Lib.hid (fun W => dcount_any y m d a1 a2 a3 a4 a5 a6 W)
    unfold DayPost at HCO
    cases hB : dateB y m d
    · obtain ⟨hc, hg⟩ := date_next a1 a2 a3 a4 a5 a6 hB
      have HV := Lib.hid (show daysQ y m d = 0 by unfold daysQ; rw [hB]; rfl)
      rw [hc] at HCO
      have HCI := Lib.hid (fun W => dcivil_any y (m + 1) (d - monQ y m) hg W)
      unfold CivPost at HCI
      obtain ⟨V, hV⟩ : ∃ V, dayQ y (m + 1) (d - monQ y m) = V := ⟨_, rfl⟩
      obtain ⟨D, hD⟩ : ∃ D, d - monQ y m = D := ⟨_, rfl⟩
      rw [hV] at HCO HCI
      rw [hD] at HCI
      obtain ⟨M, hM⟩ : ∃ M, m + 1 = M := ⟨_, rfl⟩
      rw [hM] at HCI
      have g7 : ((y : Int) == (y : Int)) = true := by simp
      have g8 : ((M : Int) == (m : Int)) = false := by rw [beq_eq_false_iff_ne]; omega
      clear hc hg hV hD hM hB
      go_enter Tryz.func130, Tryz.ntmps130
      go_wp2_with fail
      refine (HCO.out w).mono ?_
      rintro e w1 ⟨rfl, hb1⟩
      have HB1 := Lib.hid hb1
      clear hb1 HCO
      go_wp2_with fail
      refine (HCI.out w1).mono ?_
      rintro e w2 ⟨rfl, hb2⟩
      have HB2 := Lib.hid (HB1.out.trans (hb2.mono HB1.out.size))
      clear hb2 HCI HB1
      go_wp2
      go_ret
      rw [HV.out]
      exact ⟨rfl, HB2.out⟩
    · have HV := Lib.hid (show daysQ y m d = dayQ y m d by unfold daysQ; rw [hB]; rfl)
      rw [cnt_day y m d a1 a3 a4 a5] at HCO
      have HCI := Lib.hid (fun W => dcivil_any y m d hB W)
      unfold CivPost at HCI
      obtain ⟨V, hV⟩ : ∃ V, dayQ y m d = V := ⟨_, rfl⟩
      rw [hV] at HCO HCI HV
      clear hV hB
      go_enter Tryz.func130, Tryz.ntmps130
      go_wp2_with fail
      refine (HCO.out w).mono ?_
      rintro e w1 ⟨rfl, hb1⟩
      have HB1 := Lib.hid hb1
      clear hb1 HCO
      go_wp2_with fail
      refine (HCI.out w1).mono ?_
      rintro e w2 ⟨rfl, hb2⟩
      have HB2 := Lib.hid (HB1.out.trans (hb2.mono HB1.out.size))
      clear hb2 HCI HB1
      go_wp2
      go_ret
      rw [HV.out]
      exact ⟨rfl, HB2.out⟩
  · have HV := Lib.hid (show daysQ y m d = 0 from date_no fun h => h1 ⟨h.1, h.2.1, h.2.2.1, h.2.2.2.1, h.2.2.2.2.1, by have := mon_le y m; omega⟩)
    go_enter Tryz.func130, Tryz.ntmps130
    by_cases a1 : 1 ≤ y
    · have g1 : decide ((y : Int) < 1) = false := decide_eq_false (by omega)
      by_cases a2 : y ≤ 9999
      · have g2 : decide ((9999 : Int) < (y : Int)) = false := decide_eq_false (by omega)
        by_cases a3 : 1 ≤ m
        · have g3 : decide ((m : Int) < 1) = false := decide_eq_false (by omega)
          by_cases a4 : m ≤ 12
          · have g4 : decide ((12 : Int) < (m : Int)) = false := decide_eq_false (by omega)
            by_cases a5 : 1 ≤ d
            · have g5 : decide ((d : Int) < 1) = false := decide_eq_false (by omega)
              have g6 : decide ((31 : Int) < (d : Int)) = true := decide_eq_true (by omega)
              go_wp2
              go_ret
              rw [HV.out]
              exact ⟨rfl, Below.refl _ _⟩
            · have g5 : decide ((d : Int) < 1) = true := decide_eq_true (by omega)
              go_wp2
              go_ret
              rw [HV.out]
              exact ⟨rfl, Below.refl _ _⟩
          · have g4 : decide ((12 : Int) < (m : Int)) = true := decide_eq_true (by omega)
            go_wp2
            go_ret
            rw [HV.out]
            exact ⟨rfl, Below.refl _ _⟩
        · have g3 : decide ((m : Int) < 1) = true := decide_eq_true (by omega)
          go_wp2
          go_ret
          rw [HV.out]
          exact ⟨rfl, Below.refl _ _⟩
      · have g2 : decide ((9999 : Int) < (y : Int)) = true := decide_eq_true (by omega)
        go_wp2
        go_ret
        rw [HV.out]
        exact ⟨rfl, Below.refl _ _⟩
    · have g1 : decide ((y : Int) < 1) = true := decide_eq_true (by omega)
      go_wp2
      go_ret
      rw [HV.out]
      exact ⟨rfl, Below.refl _ _⟩
end Go.Proofs.YtomcdhmcjndioaaGreatDoor
end
section
namespace Go.Proofs.YtomcdhmcjndioaaGreatDoor
open Go.RowKit
set_option linter.unusedVariables false

/-- The table of powers of ten, for strconv.Itoa. -/
structure PowTab (w : World) : Prop where
  tab : Lib.TabIs Tryz.prog w "internal/strconv.uint64pow10" .u64 Lib.pow10Tab
  lt : 4 < w.heap.size
theorem pow_named : Tryz.prog.globalNamed "internal/strconv.uint64pow10" = some 4 := by kernel_rfl
theorem PowTab.below {w w' : World} (h : PowTab w) (hb : Below w.heap.size w w') : PowTab w' := by
  refine ⟨?_, Nat.lt_of_lt_of_le h.lt hb.size⟩
  have h1 := h.tab
  unfold Lib.TabIs World.var? at h1 ⊢
  rw [pow_named] at h1 ⊢
  simp only [Option.bind_some] at h1 ⊢
  rw [hb.block _ h.lt]
  exact h1
set_option maxRecDepth 100000 in
theorem ntext_any (n : Int) (h0 : -9223372036854775808 ≤ n) (h1 : n ≤ 9223372036854775807) (w : World) (ht : PowTab w) : Calls Tryz.prog 59 #[.int .i64 n] w (StrB w (Lib.itoa n)) := by
  have HT := Lib.hid ht.tab
  clear ht
  go_enter Tryz.func59, Tryz.ntmps59
  go_wp2_with fail
  refine (Tryz.strconv_Itoa n h0 h1 _ HT.out).mono ?_
  rintro e w' ⟨rfl, k, os, rfl⟩
  go_wp2
  go_ret
  exact ⟨rfl, Lib.below_grow _ _ (Nat.le_refl _) k os⟩
/-- Pad. -/
def padP (n wd : Nat) : List UInt8 := Lib.repeatL [48] (wd - (Lib.itoa (n : Int)).length) ++ Lib.itoa (n : Int)
set_option maxRecDepth 100000 in
set_option maxHeartbeats 4000000 in
theorem npad_any (n wd : Nat) (hn : n ≤ 1000000000) (hw : wd ≤ 100) (hl : (Lib.itoa (n : Int)).length ≤ wd) (w : World) (ht : PowTab w) : Calls Tryz.prog 90 #[.int .i64 (n : Int), .int .i64 (wd : Int)] w (StrB w (padP n wd)) := by
  have HT := Lib.hid (ntext_any (n : Int) (by omega) (by omega) w ht)
  have HP := Lib.hid (show padP n wd = Lib.repeatL [48] (wd - (Lib.itoa (n : Int)).length) ++ Lib.itoa (n : Int) from rfl)
  obtain ⟨P, hP⟩ : ∃ P, padP n wd = P := ⟨_, rfl⟩
  rw [hP] at HP ⊢
  obtain ⟨T, hT⟩ : ∃ T, Lib.itoa (n : Int) = T := ⟨_, rfl⟩
  rw [hT] at HT HP hl
  unfold StrB at HT
  obtain ⟨c, hc⟩ : ∃ c, wd - T.length = c := ⟨_, rfl⟩
  rw [hc] at HP
  have HR := Lib.hid (fun W => Tryz.strings_Repeat ⟨#[48]⟩ c W (by omega) (by show 1 * c ≤ _; omega))
  obtain ⟨S, hS⟩ : ∃ S, ba T = S := ⟨_, rfl⟩
  have HS := Lib.hid hS
  rw [hS] at HT
  obtain ⟨ni, hni⟩ : ∃ x : Int, (n : Int) = x := ⟨_, rfl⟩
  have n0 : 0 ≤ ni := by omega
  rw [hni] at HT ⊢
  obtain ⟨wi, hwi⟩ : ∃ x : Int, (wd : Int) = x := ⟨_, rfl⟩
  have w0 : 0 ≤ wi := by omega
  have w1 : wi ≤ 100 := by omega
  rw [hwi]
  obtain ⟨m, hm⟩ : ∃ m : Int, (S.size : Int) = m := ⟨_, rfl⟩
  have hm2 : m = (T.length : Int) := by rw [← hm, ← hS, ba_size]
  have m0 : 0 ≤ m := by omega
  have m1 : m ≤ wi := by omega
  have hmax : max (wi - m) 0 = wi - m := by omega
  have hcw : wi - m = (c : Int) := by omega
  have c1 : c ≤ 100 := by omega
  have HLL := Lib.hid (show (ba (Lib.repeatL [48] c)).size = c by rw [ba_size, Lib.repeatL_length]; simp)
  have s1 : S.size ≤ 100 := by omega
  clear hni hP hT ht hS hm2 hc hwi
  go_enter Tryz.func90, Tryz.ntmps90
  go_wp2_with fail
  refine HT.out.mono ?_
  rintro e w2 ⟨rfl, hb2⟩
  have HB2 := Lib.hid hb2
  clear hb2
  go_wp2_with fail
  refine (HR.out _).mono ?_
  rintro e w3 ⟨rfl, hb3⟩
  have HB3 := Lib.hid (HB2.out.trans (hb3.mono HB2.out.size))
  clear hb3
  have hr1 : (⟨(Lib.repeatL (⟨#[48]⟩ : ByteArray).data.toList c).toArray⟩ : ByteArray) = ba (Lib.repeatL [48] c) := rfl
  rw [hr1]
  obtain ⟨Z, hZ⟩ : ∃ Z, ba (Lib.repeatL [48] c) = Z := ⟨_, rfl⟩
  have HZ := Lib.hid hZ
  have z1 : Z.size + S.size ≤ 1000 := by have := HLL.out; rw [hZ] at this; omega
  have z2 : ¬ 9223372036854775807 < Z.size + S.size := by omega
  rw [hZ]
  clear hr1 hZ HLL
  go_wp2
  go_ret
  refine ⟨?_, HB3.out⟩
  rw [HP.out, ← HZ.out, ← HS.out, ba_append]
  rfl
theorem digits_ge {u : Nat} (h : ¬ u < 10) : Lib.decDigits u = Lib.decDigits (u / 10) ++ [UInt8.ofNat (48 + u % 10)] := by conv => lhs; rw [Lib.decDigits, dif_neg h]
theorem digits_lt {u : Nat} (h : u < 10) : Lib.decDigits u = [UInt8.ofNat (48 + u)] := by rw [Lib.decDigits, dif_pos h]
theorem itoa_2000 : Lib.itoa ((2000 : Nat) : Int) = [50, 48, 48, 48] := by
  show Lib.decDigits 2000 = _
  rw [digits_ge (by decide), digits_ge (u := 2000 / 10) (by decide), digits_ge (u := 2000 / 10 / 10) (by decide), digits_lt (u := 2000 / 10 / 10 / 10) (by decide)]
  rfl
theorem itoa_one (u : Nat) (h : u < 10) : Lib.itoa (u : Int) = [UInt8.ofNat (48 + u)] := by
  unfold Lib.itoa
  rw [if_neg (by omega), Int.toNat_natCast, digits_lt h]
theorem pad_2000 : padP 2000 4 = [50, 48, 48, 48] := by unfold padP; rw [itoa_2000]; rfl
theorem pad_1 : padP 1 2 = [48, 49] := by unfold padP; rw [itoa_one 1 (by decide)]; rfl
theorem pad_2 : padP 2 2 = [48, 50] := by unfold padP; rw [itoa_one 2 (by decide)]; rfl
set_option maxRecDepth 100000 in
set_option maxHeartbeats 4000000 in
theorem count_2048 (w : World) (ht : PowTab w) : Calls Tryz.prog 60 #[.int .i64 2048] w (StrB w [50, 75]) := by
  have HT := Lib.hid (ntext_any ((2 : Nat) : Int) (by omega) (by omega) w ht)
  rw [itoa_one 2 (by decide)] at HT
  unfold StrB at HT
  clear ht
  go_enter Tryz.func60, Tryz.ntmps60
  go_wp2_with fail
  refine HT.out.mono ?_
  rintro e w2 ⟨rfl, hb2⟩
  have HB2 := Lib.hid hb2
  clear hb2
  go_wp2
  go_ret
  exact ⟨rfl, HB2.out⟩
theorem size_2K : sizeQ [50, 75] = some 2048 := by kernel_rfl
set_option maxRecDepth 100000 in
set_option maxHeartbeats 4000000 in
theorem sized_2048 (w : World) (ht : PowTab w) (hT : QTabs w) : Calls Tryz.prog 61 #[.int .i64 2048] w fun e w' => e = .returned (.bool true) ∧ Below w.heap.size w w' := by
  have HT := Lib.hid (count_2048 w ht)
  have HTB := Lib.hid hT
  clear ht hT
  go_enter Tryz.func61, Tryz.ntmps61
  go_wp2_with fail
  refine HT.out.mono ?_
  rintro e w2 ⟨rfl, hb2⟩
  have HB2 := Lib.hid hb2
  have hsz := qsize_any [50, 75] w2 (by decide) (HTB.out.below hb2)
  rw [size_2K] at hsz
  have HSZ := Lib.hid hsz
  clear hb2 hsz
  go_wp2_with fail
  refine HSZ.out.mono ?_
  rintro e w3 ⟨rfl, hb3⟩
  have HB3 := Lib.hid (HB2.out.trans (hb3.mono HB2.out.size))
  clear hb3
  simp only [Option.getD_some, Option.isSome_some]
  go_wp2
  go_ret
  exact ⟨rfl, HB3.out⟩
theorem day_2000 : dayQ 2000 1 2 = 10958 := by kernel_rfl
theorem date_2000 : dateB 2000 1 2 = true := by kernel_rfl
set_option maxRecDepth 100000 in
set_option maxHeartbeats 4000000 in
theorem dated_2000 (w : World) (ht : PowTab w) : Calls Tryz.prog 62 #[.int .i64 946771200] w fun e w' => e = .returned (.tuple #[.string (ba [50, 48, 48, 48, 45, 48, 49, 45, 48, 50]), .bool true]) ∧ Below w.heap.size w w' := by
  have hc := dcivil_any 2000 1 2 date_2000 w
  rw [day_2000] at hc
  have HC := Lib.hid hc
  have HT := Lib.hid ht
  have P1 := Lib.hid (fun W hW => npad_any 2000 4 (by decide) (by decide) (by rw [itoa_2000]; decide) W hW)
  have P2 := Lib.hid (fun W hW => npad_any 1 2 (by decide) (by decide) (by rw [itoa_one 1 (by decide)]; decide) W hW)
  have P3 := Lib.hid (fun W hW => npad_any 2 2 (by decide) (by decide) (by rw [itoa_one 2 (by decide)]; decide) W hW)
  rw [pad_2000] at P1
  rw [pad_1] at P2
  rw [pad_2] at P3
  unfold StrB at P1 P2 P3
  clear hc ht
  go_enter Tryz.func62, Tryz.ntmps62
  go_wp2_with fail
  refine HC.out.mono ?_
  rintro e w2 ⟨rfl, hb2⟩
  have HB2 := Lib.hid hb2
  clear hb2
  go_wp2_with fail
  refine (P1.out w2 (HT.out.below HB2.out)).mono ?_
  rintro e w3 ⟨rfl, hb3⟩
  have HB3 := Lib.hid (HB2.out.trans (hb3.mono HB2.out.size))
  clear hb3
  go_wp2_with fail
  refine (P2.out w3 (HT.out.below HB3.out)).mono ?_
  rintro e w4 ⟨rfl, hb4⟩
  have HB4 := Lib.hid (HB3.out.trans (hb4.mono HB3.out.size))
  clear hb4
  go_wp2_with fail
  refine (P3.out w4 (HT.out.below HB4.out)).mono ?_
  rintro e w5 ⟨rfl, hb5⟩
  have HB5 := Lib.hid (HB4.out.trans (hb5.mono HB4.out.size))
  clear hb5
  go_wp2
  go_ret2
  exact ⟨rfl, HB5.out⟩
end Go.Proofs.YtomcdhmcjndioaaGreatDoor
end
section
namespace Go.Proofs.YtomcdhmcjndioaaGreatDoor
open Go.RowKit
set_option linter.unusedVariables false

open Go.ChangeMaps
open Go Go.ChangeShapes Go.WideShapes Go.ChangeAt Go.RowKit Go.Deep Go.Lib
/-- The list that both rows bear. -/
def laid37 : List (String × DataW Unit) := Rows.queryReadsRow.laid
theorem laid37_plain (w : World) : laidMetH Tryz.prog laid37 w = laidMet Tryz.prog laid37 w := MakeChecks.laidMetH_plain _ _ _ (by kernel_rfl)
theorem gER : Tryz.prog.globalNamed "strconv.ErrRange" = some 6 := by kernel_rfl
theorem gERType : (Tryz.prog.globals[(6 : Nat)]?).map (·.type) = some 97 := by kernel_rfl
theorem cells_es : Tryz.prog.cellsOf 192 = 1 := by kernel_rfl
theorem cells_st : Tryz.prog.cellsOf 9 = 1 := by kernel_rfl
theorem star_es : "*" ++ "errors.errorString" = "*errors.errorString" := by decide
theorem row_es (u : TypeId) (h : Tryz.prog.typeName? 3 u = some "*errors.errorString") : u = 190 :=
  typeName_ptr_named (nm := "errors.errorString") (by rw [star_es]; kernel_rfl) (by kernel_rfl) (by decide) u (by rw [star_es]; exact h)
theorem pow_eq : (Rows.laid_internal_strconv_uint64pow10 : DataW Unit) = Lib.tabData .u64 Lib.pow10Tab := by kernel_rfl
theorem gPowT : (Tryz.prog.globals[(4 : Nat)]?).map (·.type) = some 167 := by kernel_rfl
theorem cells_u64 : Tryz.prog.cellsOf 156 = 1 := by kernel_rfl
theorem cells_20 : Tryz.prog.cellsOf 167 = 20 := by kernel_rfl
theorem gFld : Tryz.prog.globalNamed "pouch/query.fields" = some 0 := by kernel_rfl
theorem gFldT : (Tryz.prog.globals[(0 : Nat)]?).map (·.type) = some 84 := by kernel_rfl
theorem cells_6 : Tryz.prog.cellsOf 84 = 6 := by kernel_rfl
theorem fld_eq : (Rows.laid_pouch_query_fields : DataW Unit) = .agg (fieldsQ.map fun s => .lit (.string s)) := by kernel_rfl
/-- An array of strings that reads as the table. -/
theorem cells_of_strs {H : Type} {enc : TypeId × Value → H} {w : World} {base : Nat} {sp : Nat → Bool} {held : Bool} {fuel : Nat} {cs : List Value} {zs : List (List UInt8)} {p : List MemPlace}
    (h : DataW.trod enc Tryz.prog w base sp held fuel 84 cs = some (.agg (zs.map fun s => .lit (.string s)), p)) : cs = zs.map fun s => Value.string (ba s) := by
  cases fuel with
  | zero => simp [DataW.trod] at h
  | succ fuel =>
    simp only [DataW.trod, Tryz.underlying84, cells_st, cells_6, Nat.mul_one] at h
    split at h
    · rename_i hl
      obtain ⟨xs, hm, hx⟩ := Option.map_eq_some_iff.1 h
      have hxs : xs.map (·.1) = zs.map fun z => (DataW.lit (.string z) : DataW H) := by
        have := congrArg Prod.fst hx
        simpa using this
      have hxl : xs.length = 6 := by simpa using mapM_length hm
      have hzl : zs.length = 6 := by
        have := congrArg List.length hxs
        simp at this
        omega
      apply List.ext_getElem?
      intro i
      by_cases hi : i < 6
      · obtain ⟨b, hb, hf⟩ := mapM_at hm i i (by simp [hi])
        obtain ⟨s, hc, hd, _⟩ := DataW.trod_string Tryz.underlying9 hf
        have h1 : cs[i]? = some (.string s) := by
          have := congrArg (·[0]?) hc
          simpa [List.getElem?_take, List.getElem?_drop] using this
        have h2 : (xs.map (·.1))[i]? = some (DataW.lit (.string s.data.toList) : DataW H) := by simp [hb, hd]
        rw [hxs] at h2
        simp only [List.getElem?_map, Option.map_eq_some_iff, DataW.lit.injEq, Lit.string.injEq] at h2
        obtain ⟨z', hz', he⟩ := h2
        rw [h1, List.getElem?_map, hz', he]
        rfl
      · rw [List.getElem?_eq_none (by omega), List.getElem?_eq_none (by simp; omega)]
    · cases h
theorem tabs37 {W : World} (hL : laidMetH Tryz.prog laid37 W) (hS : W.ShapedOpen Tryz.prog) : QTabs W ∧ PowTab W := by
  rw [laid37_plain] at hL
  have hm : ∃ m, W.cell? ⟨2, 0, none⟩ = some (.int .i64 m) := Go.Proofs.cell_of_shapedOpen_int (zero := #[.int .i64 0]) (t := 3) hS (of_decide_eq_true (by kernel_rfl)) (by kernel_rfl) rfl (by kernel_rfl) (by kernel_rfl) Tryz.underlying3
  have hP := hL.tail.tail
  have hE := hP.tail.tail
  have hF := hE.tail.tail
  have hC := hF.tail
  have hQ := hC.tail
  have hpow : Lib.TabIs Tryz.prog W "internal/strconv.uint64pow10" .u64 Lib.pow10Tab := tabIs_of_head pow_named gPowT Tryz.underlying167 Tryz.underlying156 cells_u64 cells_20 (by rw [← pow_eq]; exact hP)
  obtain ⟨a1, s1, hv1, -, -, -⟩ := laid_sentinel hE gER gERType Tryz.underlying97 row_es Tryz.underlying190 Tryz.underlying192 rfl rfl Tryz.underlying9 cells_es cells_st
  have h0 : W.cell? ⟨6, 0, none⟩ = some (.iface 190 (.pointer (some a1))) := by have h0 := World.var?_cell gER hv1 0; simpa using h0
  obtain ⟨m, hm2⟩ := hm
  obtain ⟨psF, ⟨g0, t0, cs0, f0, p0, q0, hg0, ht0, hv0, hd0, _, _⟩, _⟩ := hF
  obtain ⟨psC, ⟨g2, t2, cs2, f2, p2, q2, hg2, ht2, hv2, hd2, _, _⟩, _⟩ := hC
  obtain ⟨psQ, ⟨g3, t3, cs3, f3, p3, q3, hg3, ht3, hv3, hd3, _, _⟩, _⟩ := hQ
  obtain rfl := Option.some.inj (gFold.symm.trans hg0)
  obtain rfl := Option.some.inj (gCut.symm.trans hg2)
  obtain rfl := Option.some.inj (gFld.symm.trans hg3)
  obtain rfl := Option.some.inj (tFold.symm.trans ht0)
  obtain rfl := Option.some.inj (tCut.symm.trans ht2)
  obtain rfl := Option.some.inj (gFldT.symm.trans ht3)
  obtain ⟨ad0, c0, hc0, hf⟩ := fold_in hd0
  obtain ⟨ad1, c1, hc1, hk⟩ := cut_in hd2
  have k0 : W.cell? ⟨3, 0, none⟩ = some (.slice (some ad0) 17 c0) := by
    have := World.var?_cell hg0 hv0 0
    rw [Array.eq_one_of_toList hc0] at this
    simpa using this
  have k1 : W.cell? ⟨1, 0, none⟩ = some (.slice (some ad1) 19 c1) := by
    have := World.var?_cell hg2 hv2 0
    rw [Array.eq_one_of_toList hc1] at this
    simpa using this
  rw [fld_eq] at hd3
  have hcs := cells_of_strs hd3
  have hfl : ∀ j, j < 6 → W.cell? ⟨0, j, none⟩ = some (.string (ba (fieldsQ.getD j []))) := fun j hj => by
    have h1 := World.var?_cell hg3 hv3 j
    rw [h1, ← Array.getElem?_toList, hcs, List.getElem?_map]
    match j, hj with
    | 0, _ => rfl
    | 1, _ => rfl
    | 2, _ => rfl
    | 3, _ => rfl
    | 4, _ => rfl
    | 5, _ => rfl
  have hpc := hpow.cell pow_named 0 (by decide)
  exact ⟨⟨⟨_, h0, .inr ⟨_, _, rfl⟩⟩, ⟨m, hm2⟩, ⟨World.block_lt_of_cell? W _ k0, ad0, c0, k0, hf⟩, ⟨World.block_lt_of_cell? W _ k1, ad1, c1, k1, hk⟩, hfl, World.block_lt_of_cell? W _ hm2, World.block_lt_of_cell? W _ h0, World.block_lt_of_cell? W _ (hfl 0 (by decide))⟩, ⟨hpow, World.block_lt_of_cell? W _ hpc⟩⟩
/-- A world for the witness. -/
noncomputable def world37 (os : Os) : World := World.laidAll Tryz.prog os laid37
theorem met37 (os : Os) (args : Array Value) : laidMetH Tryz.prog laid37 ((world37 os).forCall (fun _ _ => 0) ⟨#[], args, []⟩).memory := by
  rw [laid37_plain]
  exact laidMet_laidAll _ (by kernel_rfl) (by kernel_rfl)
end Go.Proofs.YtomcdhmcjndioaaGreatDoor
end
section
namespace Go.Proofs.YtomcdhmcjndioaaGreatDoor
open Go.RowKit
set_option linter.unusedVariables false

/-- Elements of a map are read as they are. -/
def asIs (v : Value) : Option (DataW Value × List MemPlace) := some (.held v, [])
/-- A kind of keys: their values, which fit, their literals. -/
structure KeyL (k : TypeId) (κ : Type) where
  kv : κ → Value
  fits : κ → Prop
  kk : κ → Lit
  keyed : Maps.Keyed Tryz.prog k
  of : ∀ x, fits x → keyOf Tryz.prog k (kv x) = some (kk x)
  inj : ∀ x y, fits x → fits y → kk x = kk y → x = y
/-- Block b is a map: the key x leads to f x. -/
def MapL {k : TypeId} {κ : Type} (K : KeyL k κ) (w : World) (b : Nat) (f : κ → Option Value) (c : Nat) : Prop :=
  ∃ D, w.ownsMap Tryz.prog k asIs b c D ∧ ∀ x, K.fits x → ∀ z, D.atKey (K.kk x) z = match f x with | some v => .held v | none => z
theorem ownsMap_block {H : Type} {P : Program} {k : TypeId} {R : Value → Option (DataW H × List MemPlace)} {w w' : World} {b n : Nat} {D : DataW H} (h : w.ownsMap P k R b n D) (hb : w'.heap[b]? = w.heap[b]?) : w'.ownsMap P k R b n D := by
  obtain ⟨es, clock, h1, h2⟩ := h
  exact ⟨es, clock, hb.trans h1, h2⟩
section
variable {k : TypeId} {κ : Type} {K : KeyL k κ} {w w' : World} {b c : Nat} {f : κ → Option Value}
theorem MapL.keep (h : MapL K w b f c) (hb : w'.heap[b]? = w.heap[b]?) : MapL K w' b f c := by
  obtain ⟨D, h1, h2⟩ := h; exact ⟨D, ownsMap_block h1 hb, h2⟩
theorem MapL.lt (h : MapL K w b f c) : b < w.heap.size := by obtain ⟨D, h1, _⟩ := h; exact h1.lt
theorem MapL.below (h : MapL K w b f c) (hb : Below w.heap.size w w') : MapL K w' b f c := h.keep (hb.block b h.lt)
theorem MapL.mono (h : MapL K w b f c) {c' : Nat} (hc : c ≤ c') : MapL K w b f c' := by
  obtain ⟨D, h1, h2⟩ := h; exact ⟨D, h1.mono hc, h2⟩
theorem MapL.congr (h : MapL K w b f c) {g : κ → Option Value} (hg : ∀ x, K.fits x → g x = f x) : MapL K w b g c := by
  obtain ⟨D, h1, h2⟩ := h; exact ⟨D, h1, fun x hx z => by rw [hg x hx]; exact h2 x hx z⟩
theorem MapL.made (K : KeyL k κ) (w : World) : MapL K (w.alloc (.map #[] 0)) w.heap.size (fun _ => none) 0 := ⟨_, World.ownsMap_made _ _ _ _, fun _ _ _ => rfl⟩
theorem MapL.look {t e : TypeId} (h : MapL K w b f c) (ht : Tryz.prog.underlying t = some (.map k e)) {z : Value} (hz : (zeroValue e).run Tryz.prog w = .ok z w) {x : κ} (hx : K.fits x) :
    (Instr.lookup t (.map (some b)) (K.kv x) false).run Tryz.prog w = .ok ((f x).getD z) w := by
  obtain ⟨D, h1, h2⟩ := h
  obtain ⟨v, ps, hrun, hv⟩ := h1.lookup K.keyed ht hz (zd := .held z) (zp := []) rfl (K.of x hx)
  rw [h2 x hx] at hv
  rw [hrun]
  unfold asIs at hv
  cases hn : f x with
  | none => rw [hn] at hv; simp only [Option.some.injEq, Prod.mk.injEq, DataW.held.injEq] at hv; rw [hv.1]; rfl
  | some g => rw [hn] at hv; simp only [Option.some.injEq, Prod.mk.injEq, DataW.held.injEq] at hv; rw [hv.1]; rfl
theorem MapL.look_ok {t e : TypeId} (h : MapL K w b f c) (ht : Tryz.prog.underlying t = some (.map k e)) {z : Value} (hz : (zeroValue e).run Tryz.prog w = .ok z w) {x : κ} (hx : K.fits x) :
    (Instr.lookup t (.map (some b)) (K.kv x) true).run Tryz.prog w = .ok (.tuple #[(f x).getD z, .bool (f x).isSome]) w := by
  obtain ⟨D, h1, h2⟩ := h
  obtain ⟨v, ps, hrun, hv⟩ := h1.look_ok K.keyed ht hz (zd := .held z) (zp := []) rfl (K.of x hx)
  have h3 := h2 x hx
  rw [h3] at hv
  rw [hrun]
  unfold asIs at hv
  cases hn : f x with
  | none =>
    rw [hn] at hv h3
    simp only [Option.some.injEq, Prod.mk.injEq, DataW.held.injEq] at hv
    rw [hv.1, Maps.has_false_of_atKey h3]
    rfl
  | some g =>
    rw [hn] at hv h3
    simp only [Option.some.injEq, Prod.mk.injEq, DataW.held.injEq] at hv
    rw [hv.1, Maps.has_true_of_atKey h3]
    rfl
open Classical in
/-- One key set. -/
noncomputable def updK {κ : Type} (f : κ → Option Value) (x : κ) (v : Value) : κ → Option Value := fun y => if y = x then some v else f y
theorem updK_same {κ : Type} (f : κ → Option Value) (x : κ) (v : Value) : updK f x v x = some v := by unfold updK; rw [if_pos rfl]
theorem updK_other {κ : Type} (f : κ → Option Value) {x y : κ} (v : Value) (h : y ≠ x) : updK f x v y = f y := by unfold updK; rw [if_neg h]
theorem MapL.put {t e : TypeId} (h : MapL K w b f c) (ht : Tryz.prog.underlying t = some (.map k e)) (hc : c < maxLen) {x : κ} (hx : K.fits x) (v : Value) :
    ∃ w', (Instr.mapUpdate t (.map (some b)) (K.kv x) v).run Tryz.prog w = .ok () w' ∧ MapL K w' b (updK f x v) (c + 1) ∧ w.grownBy w' (some b) := by
  obtain ⟨D, h1, h2⟩ := h
  have hm := h1.isMap
  obtain ⟨w', hrun, ho, hg⟩ := h1.update K.keyed ht hc (d := .held v) (ps := []) (K.of x hx) (val := v) rfl
  refine ⟨w', hrun, ⟨_, ho, fun y hy z => ?_⟩, hg⟩
  by_cases e : y = x
  · subst e
    rw [updK_same, Maps.atKey_put_same hm (K.keyed.key (K.of y hx))]
  · rw [updK_other _ _ e, Maps.atKey_put_other (fun e1 => e (K.inj y x hy hx e1)), h2 y hy]
end
theorem laidOut : laidOutB Tryz.prog = true := by kernel_rfl
theorem wf64 {i : Int} (h : -9223372036854775808 ≤ i ∧ i ≤ 9223372036854775807) : (Lit.int .i64 i).wf = true := by
  unfold Lit.wf
  have h1 : IntKind.i64.min = -9223372036854775808 := by decide
  have h2 : IntKind.i64.max = 9223372036854775807 := by decide
  simp only [h1, h2, Bool.and_eq_true, decide_eq_true_eq]; exact h
theorem strK_of (x : List UInt8) (hx : x.length ≤ maxLen) : keyOf Tryz.prog 9 (.string (ba x)) = some (.string x) := by
  have h2 : (ba x).size ≤ maxLen := by rw [ba_size]; exact hx
  have h3 : keyOf Tryz.prog 9 (.string (ba x)) = mapKey Tryz.prog 9 (.string (ba x)) := by simp [keyOf, Tryz.underlying9]
  rw [h3]
  simp [mapKey, Tryz.underlying9, h2, ba_list]
noncomputable def strK : KeyL 9 (List UInt8) where
  kv := fun x => .string (ba x)
  fits := fun x => x.length ≤ maxLen
  kk := fun x => .string x
  keyed := Maps.string_keyed Tryz.underlying9
  of := strK_of
  inj := fun x y _ _ h => by injection h
end Go.Proofs.YtomcdhmcjndioaaGreatDoor
end
section
namespace Go.Proofs.YtomcdhmcjndioaaGreatDoor
open Go.RowKit
set_option linter.unusedVariables false

theorem str_info : (Tryz.prog.info? 9).map (fun i => (i.zero, i.size, i.bytes)) = some (some (.string ByteArray.empty), 1, 16) := by kernel_rfl
def sv (l : List (List UInt8)) : List Value := l.map fun s => .string (ba s)
theorem sv_snoc (l : List (List UInt8)) (s : List UInt8) : sv (l ++ [s]) = sv l ++ [.string (ba s)] := by simp [sv]
/-- v owns the strings ss, in a row of its own from B on. -/
def OwnStrs (w : World) (B : Nat) (v : Value) (ss : List (List UInt8)) : Prop := w.ownsRow B 9 1 v ss.length (sv ss)
theorem OwnStrs.nil_ (w : World) (B : Nat) : OwnStrs w B (.slice none 0 0) [] := World.ownsRow_nil _ _ _ _
theorem OwnStrs.below {w w' : World} {B : Nat} {v : Value} {ss : List (List UInt8)} (h : OwnStrs w B v ss) (hb : Below w.heap.size w w') : OwnStrs w' B v ss :=
  ownsRow_block h fun b e => hb.block b (h.lt b e).2
theorem OwnStrs.block {w w' : World} {B : Nat} {v : Value} {ss : List (List UInt8)} (h : OwnStrs w B v ss) (hb : ∀ b, v.ownBlock = some b → w'.heap[b]? = w.heap[b]?) : OwnStrs w' B v ss := ownsRow_block h hb
theorem OwnStrs.more {w : World} {B B' : Nat} {v : Value} {ss : List (List UInt8)} (h : OwnStrs w B v ss) (hB : B' ≤ B) : OwnStrs w B' v ss := by
  refine ⟨h.1, ?_⟩
  rcases h.2 with h | ⟨g, cap, cur, h1, h2, h3⟩
  · exact .inl h
  · exact .inr ⟨g, cap, cur, h1, by omega, h3⟩
/-- A run of strings in memory. -/
def Strs (w : World) (B : Nat) (A : Option Addr) (n : Nat) (ss : List (List UInt8)) : Prop := n = ss.length ∧ Run w B A (sv ss)
theorem OwnStrs.strs {w : World} {B : Nat} {v : Value} {ss : List (List UInt8)} (h : OwnStrs w B v ss) : ∃ A c, v = .slice A ss.length c ∧ ss.length ≤ c ∧ c ≤ maxLen ∧ Strs w w.heap.size A ss.length ss := by
  have h0 := h
  rcases h.2 with ⟨rfl, hn⟩ | ⟨g, cap, cur, rfl, hb, hg, h1, h2, h3, h4⟩
  · have : ss = [] := List.eq_nil_of_length_eq_zero hn
    subst this
    exact ⟨none, 0, rfl, Nat.le_refl _, by simp, rfl, .inl rfl⟩
  · exact ⟨_, cap, rfl, h1, h2, rfl, Run.of_own h0⟩
/-- append of one string onto a slice of the call's own. -/
theorem wpList_pushStr {ops : Array Oper} {rest : List Oper} {o : Oper} {a : Act} {W : World} {Q : Exit → Act → World → Prop} {B : Nat} {s : List UInt8} {v : Value} {ss : List (List UInt8)} (hown : OwnStrs W B v ss) (hB : B ≤ W.heap.size)
    (hlen : ss.length < 1099511627776) (hgd : o.guard = none) (x y : Operand) (t : TypeId) (c : Nat)
    (ho : o.op = .call { callee := .builtin .append, args := #[x, y], argTypes := #[t, t] }) (ht : Tryz.prog.underlying t = some (.slice 9))
    (hs : a.eval x = v) (hx : a.eval y = .slice (some ⟨W.heap.size, 0, none⟩) 1 c)
    (h : ∀ v' w', OwnStrs w' B v' (ss ++ [s]) → W.grownBy w' v.ownBlock → (v'.ownBlock = v.ownBlock ∨ ∃ k, v'.ownBlock = some k ∧ W.heap.size ≤ k) → wpList Tryz.prog ops Q rest (a.put o.dst v') w') :
    wpList Tryz.prog ops Q (o :: rest) a (W.alloc (.cells #[.string (ba s)] 9)) := by
  obtain ⟨i0, hi, hz0, hz1, hz2⟩ := info_parts str_info
  refine wpList_append_own_at _ hgd x y t ho B 9 i0 _ 1 16 ht hi hz0 hz1 hz2 rfl (by omega) v ss.length (sv ss) hs (World.ownsRow.alloc hown _) ⟨W.heap.size, 0, none⟩ 1 c [.string (ba s)] hx rfl (cell_one_new _ _ _) ?_ (by simp only [maxLen]; omega) (by omega) (by simp; omega) ?_
  · intro u hu; simp at hu; subst hu; rfl
  · intro v' w' h1 h2 _ h4
    refine h v' w' ?_ ?_ ?_
    · show w'.ownsRow B _ 1 v' _ _
      rw [sv_snoc]; simpa using h1
    · have h5 := World.grownBy_alloc W (.cells #[.string (ba s)] 9) v.ownBlock
      exact ⟨h2.os.trans h5.os, h2.tape.trans h5.tape, h2.output.trans h5.output, Nat.le_trans h5.size h2.size, fun k hk hne => (h2.block k (by simp; omega) hne).trans (h5.block k hk hne)⟩
    · rcases h4 with h4 | h4
      · exact .inl h4
      · exact .inr ⟨_, h4, by simp⟩
end Go.Proofs.YtomcdhmcjndioaaGreatDoor
end
section
namespace Go.Proofs.YtomcdhmcjndioaaGreatDoor
open Go.RowKit
set_option linter.unusedVariables false

theorem run_noneStr (w : World) (B : Nat) (t ty : TypeId) (ht : Tryz.prog.underlying t = some (.slice 9)) (v : Value) (acc : List (List UInt8)) (hown : OwnStrs w B v acc) (c : Nat) : (Builtin.append_ #[t, t] ty #[v, .slice none 0 c]).run Tryz.prog w = .ok v w := by
  obtain ⟨i0, hi, hz0, hz1, hz2⟩ := info_parts str_info
  rcases hown.2 with ⟨rfl, _⟩ | ⟨g, cap, cur, rfl, _, _, hnc, _⟩
  · simp [Builtin.append_, run_underlying ht, sizeOf, typeInfo, hi, Builtin.lenOf, Builtin.firstCells]
  · simp [Builtin.append_, run_underlying ht, sizeOf, typeInfo, hi, Builtin.lenOf, Builtin.firstCells, hnc, storeCells]
set_option maxRecDepth 100000 in
theorem run_joinStr (w : World) (B : Nat) (t ty : TypeId) (ht : Tryz.prog.underlying t = some (.slice 9)) (v : Value) (acc : List (List UInt8)) (hown : OwnStrs w B v acc) (hB : B ≤ w.heap.size)
    (D : Nat) (A : Option Addr) (m c : Nat) (l : List (List UInt8)) (hr : Strs w D A m l) (hlen : acc.length + m ≤ 1000000000) :
    ∃ v' w', (Builtin.append_ #[t, t] ty #[v, .slice A m c]).run Tryz.prog w = .ok v' w' ∧ OwnStrs w' B v' (acc ++ l) ∧ w.grownBy w' v.ownBlock ∧ (v'.ownBlock = v.ownBlock ∨ ∃ k, v'.ownBlock = some k ∧ w.heap.size ≤ k) := by
  obtain ⟨i0, hi, hz0, hz1, hz2⟩ := info_parts str_info
  have hml : l.length = m := hr.1.symm
  rcases A with _ | ad
  · have hl : l = [] := by
      rcases hr.2 with h | ⟨ad, e, _⟩
      · unfold sv at h; exact List.map_eq_nil_iff.1 h
      · cases e
    subst hl
    obtain rfl : m = 0 := hml.symm
    exact ⟨v, w, run_noneStr w B t ty ht v acc hown c, by simpa using hown, World.grownBy.refl w _, .inl rfl⟩
  · have hcells : ∀ j u, (sv l)[j]? = some u → w.cell? (ad.add j) = some u := fun j u hu => by
      rcases hr.2 with h | ⟨ad', e, _, hc⟩
      · rw [h] at hu; simp at hu
      · injection e with e
        subst e
        exact hc j u hu
    have hsl : (sv l).length = m := by unfold sv; rw [List.length_map, hml]
    obtain ⟨v', w', hrun, h2, h3, _, h5⟩ := run_append_own_at (P := Tryz.prog) w B t ty 9 i0 _ 1 16 ht hi hz0 hz1 hz2 rfl (by omega) v acc.length (sv acc) hown ad m c (sv l) (by rw [hsl]; omega) hcells (fun u hu => by obtain ⟨s, _, rfl⟩ := List.mem_map.1 hu; rfl) (by simp only [maxLen]; omega) (by omega) hB
    refine ⟨v', w', hrun, ?_, h3, ?_⟩
    · show w'.ownsRow B _ 1 v' _ _
      rw [List.length_append, hml, show sv (acc ++ l) = sv acc ++ sv l from List.map_append]
      exact h2
    · rcases h5 with h | h
      · exact .inl h
      · exact .inr ⟨_, h, Nat.le_refl _⟩
theorem wpList_joinStr {ops : Array Oper} {rest : List Oper} {o : Oper} {a : Act} {w : World} {Q : Exit → Act → World → Prop} {B : Nat} {v : Value} {acc : List (List UInt8)} (hown : OwnStrs w B v acc) (hB : B ≤ w.heap.size)
    {D : Nat} {A : Option Addr} {m : Nat} {l : List (List UInt8)} (hr : Strs w D A m l) (hlen : acc.length + m ≤ 1000000000) (hgd : o.guard = none) (s x : Operand) (t : TypeId) (c : Nat)
    (ho : o.op = .call { callee := .builtin .append, args := #[s, x], argTypes := #[t, t] }) (ht : Tryz.prog.underlying t = some (.slice 9)) (hs : a.eval s = v) (hx : a.eval x = .slice A m c)
    (h : ∀ v' w', OwnStrs w' B v' (acc ++ l) → w.grownBy w' v.ownBlock → (v'.ownBlock = v.ownBlock ∨ ∃ k, v'.ownBlock = some k ∧ w.heap.size ≤ k) → wpList Tryz.prog ops Q rest (a.put o.dst v') w') : wpList Tryz.prog ops Q (o :: rest) a w := by
  refine wpList_plain hgd fun K hK => ?_
  obtain ⟨v', w', hrun, h2, h3, h4⟩ := run_joinStr w B t o.type ht v acc hown hB D A m c l hr hlen
  unfold Oper.wp execOp
  simp only [ho, resolve, invoke, builtin, Sem.run_bind, Sem.run_pure, Result.andThen_ok, List.map_toArray, List.map_cons, List.map_nil, hs, hx, hrun]
  exact hK _ _ (h v' w' h2 h3 h4)
end Go.Proofs.YtomcdhmcjndioaaGreatDoor
end
section
namespace Go.Proofs.YtomcdhmcjndioaaGreatDoor
open Go.RowKit
set_option linter.unusedVariables false

abbrev Sli := Option Addr × Nat × Nat
structure RawQ where
  op : Int
  fld : Int
  text : List UInt8
  n : Int
  kids : Sli
def RawQ.val (r : RawQ) : Value := .agg #[.int .i64 r.op, .int .i64 r.fld, .string (ba r.text), .int .i64 r.n, .slice r.kids.1 r.kids.2.1 r.kids.2.2]
def noRaw : RawQ := ⟨0, 0, [], 0, (none, 0, 0)⟩
end Go.Proofs.YtomcdhmcjndioaaGreatDoor
end
section
namespace Go.Proofs.YtomcdhmcjndioaaGreatDoor
open Go.RowKit
set_option linter.unusedVariables false

theorem raw_info : (Tryz.prog.info? 25).map (fun i => (i.zero, i.size, i.bytes)) = some (some (.agg #[.int .i64 0, .int .i64 0, .string ByteArray.empty, .int .i64 0, .slice none 0 0]), 5, 64) := by kernel_rfl
def rawCells (t : RawQ) : List Value := [.int .i64 (t.op), .int .i64 (t.fld), .string (ba (t.text)), .int .i64 (t.n), .slice (t.kids).1 (t.kids).2.1 (t.kids).2.2]
def RawOk (t : RawQ) : Prop := (-9223372036854775808 ≤ t.op ∧ t.op ≤ 9223372036854775807) ∧ (-9223372036854775808 ≤ t.fld ∧ t.fld ≤ 9223372036854775807) ∧ (-9223372036854775808 ≤ t.n ∧ t.n ≤ 9223372036854775807)
/-- 'A' with 'n' places reads as the elements 'ts', in memory below B. -/
def Raws (w : World) (B : Nat) (A : Option Addr) (n : Nat) (ts : List (RawQ)) : Prop :=
  n = ts.length ∧ ∀ k (hk : k < ts.length), ∃ ad, A = some ad ∧ (ad.add (k * 5)).block < B ∧ w.cell? (ad.add (k * 5)) = some (.int .i64 (ts[k].op)) ∧ w.cell? ⟨(ad.add (k * 5)).block, (ad.add (k * 5)).off + 1, none⟩ = some (.int .i64 (ts[k].fld)) ∧ w.cell? ⟨(ad.add (k * 5)).block, (ad.add (k * 5)).off + 2, none⟩ = some (.string (ba (ts[k].text))) ∧ w.cell? ⟨(ad.add (k * 5)).block, (ad.add (k * 5)).off + 3, none⟩ = some (.int .i64 (ts[k].n)) ∧ w.cell? ⟨(ad.add (k * 5)).block, (ad.add (k * 5)).off + 4, none⟩ = some (.slice (ts[k].kids).1 (ts[k].kids).2.1 (ts[k].kids).2.2) ∧ RawOk ts[k]
section
variable {w w' : World} {B B' n : Nat} {A : Option Addr} {ts : List (RawQ)}
theorem Raws.below (h : Raws w B A n ts) (hb : Below B w w') : Raws w' B A n ts := by
  refine ⟨h.1, fun k hk => ?_⟩
  obtain ⟨ad, e, h1, c0, c1, c2, c3, c4, h5⟩ := h.2 k hk
  exact ⟨ad, e, h1, (hb.cell h1).trans c0, (hb.cell (p := ⟨(ad.add (k * 5)).block, _, none⟩) h1).trans c1, (hb.cell (p := ⟨(ad.add (k * 5)).block, _, none⟩) h1).trans c2, (hb.cell (p := ⟨(ad.add (k * 5)).block, _, none⟩) h1).trans c3, (hb.cell (p := ⟨(ad.add (k * 5)).block, _, none⟩) h1).trans c4, h5⟩
theorem Raws.more (h : Raws w B A n ts) (hB : B ≤ B') : Raws w B' A n ts := by
  refine ⟨h.1, fun k hk => ?_⟩
  obtain ⟨ad, e, h1, h2⟩ := h.2 k hk
  exact ⟨ad, e, Nat.lt_of_lt_of_le h1 hB, h2⟩
theorem Raws.nil_ : Raws w B A 0 [] := ⟨rfl, fun k hk => by simp at hk⟩
theorem Raws.len (h : Raws w B A n ts) : ts.length = n := h.1.symm
theorem Raws.cutA (h : Raws w B A n ts) (k : Nat) (hk : k ≤ n) : Raws w B A k (ts.take k) := by
  refine ⟨by rw [List.length_take, h.len]; omega, fun j hj => ?_⟩
  rw [List.length_take] at hj
  have := h.2 j (by omega)
  rw [List.getElem_take]
  exact this
theorem Raws.cutB {ad : Addr} (h : Raws w B (some ad) n ts) (k : Nat) (hk : k ≤ n) : Raws w B (some (ad.add (k * 5))) (n - k) (ts.drop k) := by
  refine ⟨by rw [List.length_drop, h.len], fun j hj => ?_⟩
  rw [List.length_drop] at hj
  obtain ⟨ad', e, r⟩ := h.2 (k + j) (by omega)
  injection e with e
  subst e
  refine ⟨_, rfl, ?_⟩
  rw [add_add', show k * 5 + j * 5 = (k + j) * 5 by omega, List.getElem_drop]
  exact r
end
/-- v owns the elements ts, in a row of its own from B on. -/
structure OwnRaws (w : World) (B : Nat) (v : Value) (ts : List (RawQ)) : Prop where
  row : w.ownsRow B 25 5 v ts.length (ts.flatMap rawCells)
  each : ∀ t, t ∈ ts → RawOk t
theorem OwnRaws.nil_ (w : World) (B : Nat) : OwnRaws w B (.slice none 0 0) [] := ⟨World.ownsRow_nil _ _ _ _, fun t h => by cases h⟩
theorem OwnRaws.below {w w' : World} {B : Nat} {v : Value} {ts : List (RawQ)} (h : OwnRaws w B v ts) (hb : Below w.heap.size w w') : OwnRaws w' B v ts :=
  ⟨ownsRow_block h.row fun b e => hb.block b (h.row.lt b e).2, h.each⟩
theorem OwnRaws.block {w w' : World} {B : Nat} {v : Value} {ts : List (RawQ)} (h : OwnRaws w B v ts) (hb : ∀ b, v.ownBlock = some b → w'.heap[b]? = w.heap[b]?) : OwnRaws w' B v ts := ⟨ownsRow_block h.row hb, h.each⟩
theorem OwnRaws.more {w : World} {B B' : Nat} {v : Value} {ts : List (RawQ)} (h : OwnRaws w B v ts) (hB : B' ≤ B) : OwnRaws w B' v ts := by
  obtain ⟨⟨h0, h1⟩, h2⟩ := h
  refine ⟨⟨h0, ?_⟩, h2⟩
  rcases h1 with h1 | ⟨g, cap, cur, e, hb, r⟩
  · exact .inl h1
  · exact .inr ⟨g, cap, cur, e, by omega, r⟩
theorem raw_len (ts : List (RawQ)) : (ts.flatMap rawCells).length = ts.length * 5 := by induction ts with | nil => rfl | cons a r ih => simp [rawCells] at ih ⊢; omega
theorem raw_get : ∀ (ts : List (RawQ)) j (hj : j < ts.length) i (hi : i < 5), (ts.flatMap rawCells)[j * 5 + i]? = (rawCells ts[j])[i]? := fun ts => by
  induction ts with
  | nil => intro j hj; simp at hj
  | cons a r ih =>
    intro j hj i hi
    cases j with
    | zero =>
      simp only [List.flatMap_cons, List.getElem_cons_zero, Nat.zero_mul, Nat.zero_add]
      rw [List.getElem?_append_left (by simp [rawCells]; omega)]
    | succ j =>
      have := ih j (by simpa using hj) i hi
      simp only [List.flatMap_cons, List.getElem_cons_succ]
      rw [List.getElem?_append_right (by simp [rawCells]; omega), show (j + 1) * 5 + i - (rawCells a).length = j * 5 + i by simp [rawCells]; omega]
      exact this
theorem raw_addS (a : Addr) {i : Nat} (hi : i ≠ 0) : a.add i = ⟨a.block, a.off + i, none⟩ := by unfold Addr.add; rw [if_neg hi]
/-- Elements that a slice owns, read. -/
theorem OwnRaws.reads {w : World} {B : Nat} {v : Value} {ts : List (RawQ)} (h : OwnRaws w B v ts) : ∃ A c, v = .slice A ts.length c ∧ ts.length ≤ c ∧ c ≤ maxLen ∧ Raws w w.heap.size A ts.length ts := by
  have h0 := h.row
  rcases h0.2 with ⟨rfl, hn⟩ | ⟨g, cap, cur, rfl, hb, hg, q1, q2, q3⟩
  · have : ts = [] := List.eq_nil_of_length_eq_zero hn
    subst this
    exact ⟨none, 0, rfl, Nat.le_refl _, by simp, Raws.nil_⟩
  · refine ⟨_, cap, rfl, q1, q2, rfl, fun k hk => ?_⟩
    have hc : ∀ i u, i < 5 → (rawCells ts[k])[i]? = some u → w.cell? ⟨g, k * 5 + i, none⟩ = some u := fun i u hi hu => by
      have := h0.cells (g := g) rfl (k * 5 + i) u (by rw [raw_get ts k hk i hi]; exact hu)
      unfold Addr.add at this
      by_cases e0 : k * 5 + i = 0
      · rw [if_pos e0] at this; rw [e0]; exact this
      · rw [if_neg e0] at this; rw [Nat.zero_add] at this; exact this
    have e1 : (Addr.add ⟨g, 0, none⟩ (k * 5)) = ⟨g, k * 5, none⟩ := by
      unfold Addr.add
      split
      · rename_i e0; rw [e0]
      · rw [Nat.zero_add]
    refine ⟨⟨g, 0, none⟩, rfl, by rw [add_block]; exact heap_lt hg, ?_, ?_, ?_, ?_, ?_, h.each _ (List.getElem_mem hk)⟩
    · rw [e1]; exact hc 0 _ (by omega) rfl
    · rw [e1]; exact hc 1 _ (by omega) rfl
    · rw [e1]; exact hc 2 _ (by omega) rfl
    · rw [e1]; exact hc 3 _ (by omega) rfl
    · rw [e1]; exact hc 4 _ (by omega) rfl
theorem OwnRaws.unfrozen {w : World} {B n c : Nat} {ad : Addr} {ts : List (RawQ)} (h : OwnRaws w B (.slice (some ad) n c) ts) (i : Nat) : w.frozen? ⟨ad.block, i, none⟩ = false ∧ ad.block < w.heap.size := by
  rcases h.row.2 with ⟨e, _⟩ | ⟨g', cap, cur, e, _, hg, _⟩
  · cases e
  · injection e with e
    injection e with e
    subst e
    exact ⟨by simp [World.frozen?, hg], heap_lt hg⟩
theorem raw_one (l : List (RawQ)) : ∀ u ∈ l.flatMap rawCells, u.oneCell' = true := by
  intro u hu
  obtain ⟨t, _, ht⟩ := List.mem_flatMap.1 hu
  simp only [rawCells, List.mem_cons, List.not_mem_nil, or_false] at ht
  rcases ht with rfl | rfl | rfl | rfl | rfl <;> rfl
set_option maxRecDepth 100000 in
theorem run_pushRaw {W : World} {B : Nat} {v : Value} {ts : List (RawQ)} {x0 : Int} {x1 : Int} {x2 : List UInt8} {x3 : Int} {x4 : Sli} (hT : OwnRaws W B v ts) (hB : B ≤ W.heap.size) (hf : RawOk (⟨x0, x1, x2, x3, x4⟩ : RawQ)) (hlen : ts.length ≤ 1000000000) (c : Nat) (ty : TypeId) :
    ∃ v' w', (Builtin.append_ #[23, 23] ty #[v, .slice (some ⟨W.heap.size, 0, none⟩) 1 c]).run Tryz.prog (W.alloc (.cells #[.int .i64 x0, .int .i64 x1, .string (ba x2), .int .i64 x3, .slice x4.1 x4.2.1 x4.2.2] 25)) = .ok v' w' ∧ OwnRaws w' B v' (ts ++ [(⟨x0, x1, x2, x3, x4⟩ : RawQ)]) ∧ W.grownBy w' v.ownBlock := by
  obtain ⟨i0, hi, hz0, hz1, hz2⟩ := info_parts raw_info
  obtain ⟨v', w', hrun, h1, h2, _, h4⟩ := run_append_own_at (P := Tryz.prog) (W.alloc (.cells #[.int .i64 x0, .int .i64 x1, .string (ba x2), .int .i64 x3, .slice x4.1 x4.2.1 x4.2.2] 25)) B 23 ty 25 i0 _ 5 64 Tryz.underlying23 hi hz0 hz1 hz2 rfl (by omega) v ts.length (ts.flatMap rawCells) (World.ownsRow.alloc hT.row _) ⟨W.heap.size, 0, none⟩ 1 c (rawCells (⟨x0, x1, x2, x3, x4⟩ : RawQ)) rfl (World.news_of_block (MapKept.heap_alloc W _).1) (fun u hu => raw_one [(⟨x0, x1, x2, x3, x4⟩ : RawQ)] u (by simpa using hu)) (by simp only [maxLen]; omega) (by omega) (by simp; omega)
  have h5 := World.grownBy_alloc W (.cells #[.int .i64 x0, .int .i64 x1, .string (ba x2), .int .i64 x3, .slice x4.1 x4.2.1 x4.2.2] 25) v.ownBlock
  refine ⟨v', w', hrun, ⟨by simpa using h1, fun t ht => ?_⟩, ⟨h2.os.trans h5.os, h2.tape.trans h5.tape, h2.output.trans h5.output, Nat.le_trans h5.size h2.size, fun k hk hne => (h2.block k (by simp; omega) hne).trans (h5.block k hk hne)⟩⟩
  rcases List.mem_append.1 ht with ht | ht
  · exact hT.each t ht
  · rw [List.mem_singleton] at ht; subst ht; exact hf
theorem wp_pushRaw {o : Oper} {a : Act} {K : Act → World → Prop} {W : World} {Q : Exit → Act → World → Prop} {B : Nat} {v : Value} {ts : List (RawQ)} {x0 : Int} {x1 : Int} {x2 : List UInt8} {x3 : Int} {x4 : Sli} (hT : OwnRaws W B v ts) (hB : B ≤ W.heap.size) (hf : RawOk (⟨x0, x1, x2, x3, x4⟩ : RawQ))
    (hlen : ts.length ≤ 1000000000) (s y : Operand) (c : Nat)
    (ho : o.op = .call { callee := .builtin .append, args := #[s, y], argTypes := #[23, 23] }) (hs : a.eval s = v) (hx : a.eval y = .slice (some ⟨W.heap.size, 0, none⟩) 1 c)
    (h : ∀ v' w', OwnRaws w' B v' (ts ++ [(⟨x0, x1, x2, x3, x4⟩ : RawQ)]) → W.grownBy w' v.ownBlock → K (a.put o.dst v') w') : o.wp Tryz.prog a (W.alloc (.cells #[.int .i64 x0, .int .i64 x1, .string (ba x2), .int .i64 x3, .slice x4.1 x4.2.1 x4.2.2] 25)) K Q := by
  obtain ⟨v', w', hrun, h1, h2⟩ := run_pushRaw hT hB hf hlen c o.type
  unfold Oper.wp execOp
  simp only [ho, resolve, invoke, builtin, Sem.run_bind, Sem.run_pure, Result.andThen_ok, List.map_toArray, List.map_cons, List.map_nil, hs, hx, hrun]
  exact h v' w' h1 h2
theorem step_pushRaw {ops : Array Oper} {o : Oper} {a : Act} {W : World} {K : Act → World → Prop} {Q : Exit → Act → World → Prop} {E : Prop} {B : Nat} {v : Value} {ts : List (RawQ)} {x0 : Int} {x1 : Int} {x2 : List UInt8} {x3 : Int} {x4 : Sli} (hT : OwnRaws W B v ts) (hB : B ≤ W.heap.size) (hf : RawOk (⟨x0, x1, x2, x3, x4⟩ : RawQ))
    (hlen : ts.length ≤ 1000000000) (hgd : o.guard = none) (s y : Operand) (c : Nat)
    (ho : o.op = .call { callee := .builtin .append, args := #[s, y], argTypes := #[23, 23] }) (hs : a.eval s = v) (hx : a.eval y = .slice (some ⟨W.heap.size, 0, none⟩) 1 c)
    (h : ∀ v' w', OwnRaws w' B v' (ts ++ [(⟨x0, x1, x2, x3, x4⟩ : RawQ)]) → W.grownBy w' v.ownBlock → K (a.put o.dst v') w') :
    if Region.wanted o (yielded ops a.tmps) = true then Oper.wp Tryz.prog o a (W.alloc (.cells #[.int .i64 x0, .int .i64 x1, .string (ba x2), .int .i64 x3, .slice x4.1 x4.2.1 x4.2.2] 25)) K Q else E := by
  have hw : Region.wanted o (yielded ops a.tmps) = true := by simp [Region.wanted, hgd]
  rw [if_pos hw]
  exact wp_pushRaw hT hB hf hlen s y c ho hs hx h
theorem wpList_pushRaw {ops : Array Oper} {rest : List Oper} {o : Oper} {a : Act} {W : World} {Q : Exit → Act → World → Prop} {B : Nat} {v : Value} {ts : List (RawQ)} {x0 : Int} {x1 : Int} {x2 : List UInt8} {x3 : Int} {x4 : Sli} (hT : OwnRaws W B v ts) (hB : B ≤ W.heap.size) (hf : RawOk (⟨x0, x1, x2, x3, x4⟩ : RawQ))
    (hlen : ts.length ≤ 1000000000) (hgd : o.guard = none) (s y : Operand) (c : Nat)
    (ho : o.op = .call { callee := .builtin .append, args := #[s, y], argTypes := #[23, 23] }) (hs : a.eval s = v) (hx : a.eval y = .slice (some ⟨W.heap.size, 0, none⟩) 1 c)
    (h : ∀ v' w', OwnRaws w' B v' (ts ++ [(⟨x0, x1, x2, x3, x4⟩ : RawQ)]) → W.grownBy w' v.ownBlock → wpList Tryz.prog ops Q rest (a.put o.dst v') w') :
    wpList Tryz.prog ops Q (o :: rest) a (W.alloc (.cells #[.int .i64 x0, .int .i64 x1, .string (ba x2), .int .i64 x3, .slice x4.1 x4.2.1 x4.2.2] 25)) :=
  wpList_plain hgd fun _ hK => wp_pushRaw hT hB hf hlen s y c ho hs hx fun v' w' h2 h3 => hK _ _ (h v' w' h2 h3)
theorem Raws.cells {w : World} {B m : Nat} {ad : Addr} {l : List (RawQ)} (h : Raws w B (some ad) m l) : ∀ j u, (l.flatMap rawCells)[j]? = some u → w.cell? (ad.add j) = some u := by
  intro j u hu
  have hj : j < l.length * 5 := by have := (List.getElem?_eq_some_iff.1 hu).1; rw [raw_len] at this; exact this
  obtain ⟨k, i, hi, rfl⟩ : ∃ k i, i < 5 ∧ j = k * 5 + i := ⟨j / 5, j % 5, by omega, by omega⟩
  have hk : k < l.length := by omega
  rw [raw_get l k hk i hi] at hu
  obtain ⟨ad', e, _, c0, c1, c2, c3, c4, _⟩ := h.2 k hk
  injection e with e
  subst e
  rw [← add_add']
  match i, hi with
  | 0, _ =>
    have hu' : Value.int .i64 (l[k].op) = u := Option.some.inj hu
    subst hu'
    have e0 : (ad.add (k * 5)).add 0 = ad.add (k * 5) := by unfold Addr.add; rfl
    rw [e0]; exact c0
  | 1, _ =>
    have hu' : Value.int .i64 (l[k].fld) = u := Option.some.inj hu
    subst hu'
    rw [raw_addS _ (by decide)]; exact c1
  | 2, _ =>
    have hu' : Value.string (ba (l[k].text)) = u := Option.some.inj hu
    subst hu'
    rw [raw_addS _ (by decide)]; exact c2
  | 3, _ =>
    have hu' : Value.int .i64 (l[k].n) = u := Option.some.inj hu
    subst hu'
    rw [raw_addS _ (by decide)]; exact c3
  | 4, _ =>
    have hu' : Value.slice (l[k].kids).1 (l[k].kids).2.1 (l[k].kids).2.2 = u := Option.some.inj hu
    subst hu'
    rw [raw_addS _ (by decide)]; exact c4
set_option maxRecDepth 100000 in
theorem run_noneRaw (w : World) (B : Nat) (t ty : TypeId) (ht : Tryz.prog.underlying t = some (.slice 25)) (v : Value) (acc : List (RawQ)) (hown : OwnRaws w B v acc) (c : Nat) : (Builtin.append_ #[t, t] ty #[v, .slice none 0 c]).run Tryz.prog w = .ok v w := by
  obtain ⟨i0, hi, hz0, hz1, hz2⟩ := info_parts raw_info
  rcases hown.row.2 with ⟨rfl, _⟩ | ⟨g, cap, cur, rfl, _, _, hnc, _⟩
  · simp [Builtin.append_, run_underlying ht, sizeOf, typeInfo, hi, Builtin.lenOf, Builtin.firstCells]
  · simp [Builtin.append_, run_underlying ht, sizeOf, typeInfo, hi, Builtin.lenOf, Builtin.firstCells, hnc, storeCells]
set_option maxRecDepth 100000 in
theorem run_joinRaw (w : World) (B : Nat) (t ty : TypeId) (ht : Tryz.prog.underlying t = some (.slice 25)) (v : Value) (acc : List (RawQ)) (hown : OwnRaws w B v acc) (hB : B ≤ w.heap.size)
    (D : Nat) (A : Option Addr) (m c : Nat) (l : List (RawQ)) (hr : Raws w D A m l) (hlen : acc.length + m ≤ 1000000000) :
    ∃ v' w', (Builtin.append_ #[t, t] ty #[v, .slice A m c]).run Tryz.prog w = .ok v' w' ∧ OwnRaws w' B v' (acc ++ l) ∧ w.grownBy w' v.ownBlock ∧ (v'.ownBlock = v.ownBlock ∨ ∃ k, v'.ownBlock = some k ∧ w.heap.size ≤ k) := by
  obtain ⟨i0, hi, hz0, hz1, hz2⟩ := info_parts raw_info
  have hml := hr.len
  rcases A with _ | ad
  · have hl : l = [] := by
      cases l with
      | nil => rfl
      | cons a r => obtain ⟨ad, e, _⟩ := hr.2 0 (by simp); cases e
    subst hl
    obtain rfl : m = 0 := hml.symm
    exact ⟨v, w, run_noneRaw w B t ty ht v acc hown c, by simpa using hown, World.grownBy.refl w _, .inl rfl⟩
  · obtain ⟨v', w', hrun, h2, h3, _, h5⟩ := run_append_own_at (P := Tryz.prog) w B t ty 25 i0 _ 5 64 ht hi hz0 hz1 hz2 rfl (by omega) v acc.length (acc.flatMap rawCells) hown.row ad m c (l.flatMap rawCells) (by rw [raw_len, hml]) hr.cells (raw_one l) (by simp only [maxLen]; omega) (by omega) hB
    refine ⟨v', w', hrun, ⟨?_, fun t ht => ?_⟩, h3, ?_⟩
    · rw [List.flatMap_append, List.length_append, hml]; exact h2
    · rcases List.mem_append.1 ht with ht | ht
      · exact hown.each t ht
      · obtain ⟨k, hk, rfl⟩ := List.getElem_of_mem ht
        obtain ⟨_, _, _, _, _, _, _, _, hb⟩ := hr.2 k hk
        exact hb
    · rcases h5 with h | h
      · exact .inl h
      · exact .inr ⟨_, h, Nat.le_refl _⟩
theorem wpList_joinRaw {ops : Array Oper} {rest : List Oper} {o : Oper} {a : Act} {w : World} {Q : Exit → Act → World → Prop} {B : Nat} {v : Value} {acc : List (RawQ)} (hown : OwnRaws w B v acc) (hB : B ≤ w.heap.size)
    {D : Nat} {A : Option Addr} {m : Nat} {l : List (RawQ)} (hr : Raws w D A m l) (hlen : acc.length + m ≤ 1000000000) (hgd : o.guard = none) (s x : Operand) (t : TypeId) (c : Nat)
    (ho : o.op = .call { callee := .builtin .append, args := #[s, x], argTypes := #[t, t] }) (ht : Tryz.prog.underlying t = some (.slice 25)) (hs : a.eval s = v) (hx : a.eval x = .slice A m c)
    (h : ∀ v' w', OwnRaws w' B v' (acc ++ l) → w.grownBy w' v.ownBlock → (v'.ownBlock = v.ownBlock ∨ ∃ k, v'.ownBlock = some k ∧ w.heap.size ≤ k) → wpList Tryz.prog ops Q rest (a.put o.dst v') w') : wpList Tryz.prog ops Q (o :: rest) a w := by
  refine wpList_plain hgd fun K hK => ?_
  obtain ⟨v', w', hrun, h2, h3, h4⟩ := run_joinRaw w B t o.type ht v acc hown hB D A m c l hr hlen
  unfold Oper.wp execOp
  simp only [ho, resolve, invoke, builtin, Sem.run_bind, Sem.run_pure, Result.andThen_ok, List.map_toArray, List.map_cons, List.map_nil, hs, hx, hrun]
  exact hK _ _ (h v' w' h2 h3 h4)
end Go.Proofs.YtomcdhmcjndioaaGreatDoor
end
section
namespace Go.Proofs.YtomcdhmcjndioaaGreatDoor
open Go.RowKit
set_option linter.unusedVariables false

theorem Raws.keep {w w' : World} {A : Option Addr} {n : Nat} {ts : List RawQ} (h : Raws w w.heap.size A n ts) (hs : w.heap.size ≤ w'.heap.size) (hb : ∀ ad, A = some ad → 0 < n → w'.heap[ad.block]? = w.heap[ad.block]?) : Raws w' w'.heap.size A n ts := by
  refine ⟨h.1, fun k hk => ?_⟩
  obtain ⟨ad, e, h1, c0, c1, c2, c3, c4, h5⟩ := h.2 k hk
  have hh : ∀ p : Addr, p.block = (ad.add (k * 5)).block → w'.cell? p = w.cell? p := fun p hp => World.cell?_of_block (w := w) (by
    rw [hp, add_block]
    exact hb ad e (by rw [h.1]; omega))
  exact ⟨ad, e, Nat.lt_of_lt_of_le h1 hs, (hh _ rfl).trans c0, (hh ⟨(ad.add (k * 5)).block, _, none⟩ rfl).trans c1, (hh ⟨(ad.add (k * 5)).block, _, none⟩ rfl).trans c2, (hh ⟨(ad.add (k * 5)).block, _, none⟩ rfl).trans c3, (hh ⟨(ad.add (k * 5)).block, _, none⟩ rfl).trans c4, h5⟩
/-- The struct r is the query q; what it reads of memory lies in blocks of P. -/
inductive QDeep (w : World) (P : Nat → Prop) : RawQ → Qry → Prop
  | mk {op fld : Int} {text : List UInt8} {n : Int} {A : Option Addr} {m c : Nat} {kids : List Qry} {raws : List RawQ} (hr : Raws w w.heap.size A m raws) (hp : ∀ ad, A = some ad → 0 < m → P ad.block)
      (hl : raws.length = kids.length) (hm : m ≤ c) (hc : c ≤ maxLen) (hk : ∀ i (h1 : i < raws.length) (h2 : i < kids.length), QDeep w P raws[i] kids[i]) : QDeep w P ⟨op, fld, text, n, (A, m, c)⟩ (.mk op fld text n kids)
theorem QDeep.keep {w w' : World} {P P' : Nat → Prop} {r : RawQ} {q : Qry} (h : QDeep w P r q) (hs : w.heap.size ≤ w'.heap.size) (hb : ∀ b, P b → w'.heap[b]? = w.heap[b]?) (hP : ∀ b, P b → P' b) : QDeep w' P' r q := by
  induction h with
  | mk hr hp hl hm hc hk ih => exact .mk (hr.keep hs fun ad e h0 => hb _ (hp ad e h0)) (fun ad e h0 => hP _ (hp ad e h0)) hl hm hc ih
theorem QDeep.more {w : World} {P P' : Nat → Prop} {r : RawQ} {q : Qry} (h : QDeep w P r q) (hP : ∀ b, P b → P' b) : QDeep w P' r q := h.keep (Nat.le_refl _) (fun _ _ => rfl) hP
/-- A query without children. -/
theorem QDeep.leaf (w : World) (P : Nat → Prop) (op fld : Int) (text : List UInt8) (n : Int) : QDeep w P ⟨op, fld, text, n, (none, 0, 0)⟩ (.mk op fld text n []) :=
  .mk Raws.nil_ (fun ad e => by cases e) rfl (Nat.le_refl _) (Nat.zero_le _) (fun i h => by simp at h)
theorem QDeep.lt {w : World} {P : Nat → Prop} {r : RawQ} {q : Qry} (h : QDeep w P r q) : QDeep w (fun b => P b ∧ b < w.heap.size) r q := by
  induction h with
  | mk hr hp hl hm hc hk ih =>
    refine .mk hr (fun ad e h0 => ⟨hp ad e h0, ?_⟩) hl hm hc ih
    obtain ⟨ad', e', h1, _⟩ := hr.2 0 (by rw [hr.len]; exact h0)
    rw [e] at e'
    injection e' with e'
    subst e'
    rw [add_block] at h1
    exact h1
/-- Memory of the own's: from B on. -/
def QOwn (w : World) (B : Nat) (r : RawQ) (q : Qry) : Prop := QDeep w (fun b => B ≤ b) r q
theorem QOwn.below {w w' : World} {B : Nat} {r : RawQ} {q : Qry} (h : QOwn w B r q) (hb : Below w.heap.size w w') : QOwn w' B r q :=
  QDeep.keep (QDeep.lt h) hb.size (fun b h => hb.block b h.2) (fun b h => h.1)
theorem QOwn.more {w : World} {B B' : Nat} {r : RawQ} {q : Qry} (h : QOwn w B r q) (hB : B' ≤ B) : QOwn w B' r q := QDeep.more h fun b hb => Nat.le_trans hB hb
/-- A list of queries that a slice of the own's holds. -/
structure QList (w : World) (B : Nat) (v : Value) (l : List Qry) : Prop where
  row : ∃ raws : List RawQ, OwnRaws w B v raws ∧ raws.length = l.length ∧ ∀ i (h1 : i < raws.length) (h2 : i < l.length), QDeep w (fun b => B ≤ b ∧ v.ownBlock ≠ some b) raws[i] l[i]
end Go.Proofs.YtomcdhmcjndioaaGreatDoor
end
