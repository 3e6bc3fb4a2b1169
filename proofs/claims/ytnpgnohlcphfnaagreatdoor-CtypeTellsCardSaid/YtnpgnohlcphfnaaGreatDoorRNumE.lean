/- Reference 1: Parse of a text that begins with '-', where the least value is 0; and of any text. -/
import Derived.Test.YtnpgnohlcphfnaaGreatDoorRNumD
namespace Go.Proofs.YtnpgnohlcphfnaaGreatDoor
open Go.RowKit
set_option linter.unusedVariables false

theorem fold_pos : ∀ (r : List UInt8) (a : Nat), 1 ≤ a → 1 ≤ r.foldl (fun a c => a * 10 + (c.toNat - 48)) a
  | [], a, h => h
  | c :: r, a, h => fold_pos r _ (by show 1 ≤ a * 10 + (c.toNat - 48); omega)
theorem decP_neg {l : List UInt8} (hh : l.head? = some 45) (hi : Int) : decP l 0 hi = none := by
  cases l with
  | nil => cases hh
  | cons c d =>
    have hc : c = 45 := by simpa using hh
    subst hc
    unfold decP
    simp only [List.head?_cons, if_true, List.drop_succ_cons, List.drop_zero]
    split
    · rename_i h
      obtain ⟨h1, h2, h3⟩ := h
      cases d with
      | nil => exact absurd rfl h2
      | cons x r =>
        have hx : digitB x = true := by
          rw [List.all_eq_true] at h1
          exact h1 x (by simp)
        unfold digitB at hx
        have hx2 := of_decide_eq_true hx
        rw [UInt8.le_iff_toNat_le, UInt8.le_iff_toNat_le] at hx2
        have hne : x ≠ 48 := fun e => h3 ⟨by rw [e]; rfl, by simp⟩
        have hn2 : x.toNat ≠ 48 := fun e => hne (UInt8.toNat_inj.1 e)
        have e48 : (48 : UInt8).toNat = 48 := rfl
        have hp : 1 ≤ decV (x :: r) := fold_pos r _ (by show 1 ≤ 0 * 10 + (x.toNat - 48); omega)
        rw [if_neg]
        rintro ⟨h5, _⟩
        omega
    · rfl
set_option maxRecDepth 100000 in
set_option maxHeartbeats 4000000 in
theorem rparse_neg (l : List UInt8) (hi : Int) (w : World) (hl : l.length ≤ 1000000000) (hh : l.head? = some 45) (hhi : hi ≤ 9223372036854775807) (hhi0 : 0 ≤ hi) :
    Calls Tryz.prog 150 #[.string (ba l), .int .i64 0, .int .i64 hi] w (ParsePost w (decP l 0 hi)) := by
  have HO := Lib.hid (decP_neg hh hi)
  have HTT := Lib.hid (fun t => text_tests t l (ba l) rfl)
  have HT0 := Lib.hid (show textT 0 ≠ l from fun e => by
    rw [textT_digit (by omega) (by omega)] at e
    rw [← e] at hh
    simp at hh)
  have hget0 : ∃ h : 0 < (ba l).size, (((ba l)[0]'h).toNat : Int) = 45 := by
    cases l with
    | nil => cases hh
    | cons c d =>
      have hc : c = 45 := by simpa using hh
      subst hc
      exact ⟨by rw [ba_size]; simp, rfl⟩
  obtain ⟨o, ho⟩ : ∃ o, decP l 0 hi = o := ⟨_, rfl⟩
  rw [ho] at HO ⊢
  clear ho hh
  obtain ⟨n, hn⟩ : ∃ n, l.length = n := ⟨_, rfl⟩
  have HL := Lib.hid hn
  obtain ⟨s, hs⟩ : ∃ s, ba l = s := ⟨_, rfl⟩
  have HS := Lib.hid hs
  have HZ := Lib.hid (show s.size = n by rw [← hs, ba_size, hn])
  have hsz : (s.size : Int) = n := by rw [HZ.out]
  rw [hs]
  rw [hn] at hl
  clear hs hn
  rw [HS.out] at HTT
  have hg : ∃ h : 0 < s.size, ((s[0]'h).toNat : Int) = 45 := by
    have h := HS.out
    subst h
    exact hget0
  clear hget0
  obtain ⟨hs0, hg0⟩ := hg
  have hn0 : (0 : Int) < (n : Int) := by have := HZ.out; omega
  have hn1 : (1 : Int) ≤ (n : Int) := by omega
  go_enter Tryz.func150, Tryz.ntmps150
  go_wp2
  obtain ⟨D, hD⟩ : ∃ D, s.extract 1 s.size = D := ⟨_, rfl⟩
  rw [hD]
  obtain ⟨m, hm⟩ : ∃ m, D.size = m := ⟨_, rfl⟩
  have hms : (D.size : Int) = m := by rw [hm]
  have HM := Lib.hid hm
  have hmb : m ≤ 1000000000 := by rw [← hm, ← hD, ByteArray.size_extract]; have := HZ.out; omega
  clear hD hm
  go_loop [10, 11, 12] (fun nn i c => ∃ (k : Nat) (v : Int) (y : Value), c = y ∧ nn = .int .i64 v ∧ k ≤ m ∧ i = .int .i64 (k : Int) ∧ Hid (v ≤ 0 ∧ -9223372036854775808 ≤ v)) (fun _ i _ => m - (intOf i).toNat)
  case atStart => exact ⟨0, 0, _, rfl, rfl, Nat.zero_le _, rfl, Lib.hid ⟨by omega, by omega⟩⟩
  case round =>
    obtain ⟨k, v, y0, rfl, rfl, hk, rfl, HR⟩ := hrel
    have hv0 : v ≤ 0 := HR.out.1
    have hv1 : -9223372036854775808 ≤ v := HR.out.2
    by_cases hlt : k < m
    · have hk2 : (k : Int) < (m : Int) := by omega
      have hk0 : (0 : Int) ≤ (k : Int) := by omega
      have hks : k < D.size := by rw [HM.out]; exact hlt
      obtain ⟨y, hy⟩ : ∃ y : Int, ((D[k]).toNat : Int) = y + 48 := ⟨((D[k]).toNat : Int) - 48, by omega⟩
      have hyb : -48 ≤ y ∧ y ≤ 207 := by have := (D[k]).toNat_lt; omega
      obtain ⟨hyb1, hyb2⟩ := hyb
      by_cases e1 : y < 0
      · have g1 : decide (y < 0) = true := decide_eq_true e1
        go_wp2
        go_ret2
        exact parse_none HO.out (Below.refl _ _)
      · have g1 : decide (y < 0) = false := decide_eq_false e1
        by_cases e2 : 9 < y
        · have g2 : decide (9 < y) = true := decide_eq_true e2
          go_wp2
          go_ret2
          exact parse_none HO.out (Below.refl _ _)
        · have g2 : decide (9 < y) = false := decide_eq_false e2
          have hq := min_div (y := y) (by omega) (by omega)
          obtain ⟨q, hqq⟩ : ∃ q, (-9223372036854775808 + y).tdiv 10 = q := ⟨_, rfl⟩
          rw [hqq] at hq
          have hq0 : -922337203685477580 ≤ q ∧ q ≤ -922337203685477579 := by omega
          have hw0 : IntKind.i64.wrap (-9223372036854775808 + y) = -9223372036854775808 + y := IntWalk.i64_in _ (by omega)
          have hw1 : IntKind.i64.wrap q = q := IntWalk.i64_in _ (by omega)
          by_cases e3 : v < q
          · have g3 : decide (v < q) = true := decide_eq_true e3
            clear hq
            go_wp2
            go_ret2
            exact parse_none HO.out (Below.refl _ _)
          · have g3 : decide (v < q) = false := decide_eq_false e3
            have HNX2 := Lib.hid (show 10 * v - y ≤ 0 ∧ -9223372036854775808 ≤ 10 * v - y by omega)
            have hw2 : IntKind.i64.wrap (10 * v) = 10 * v := IntWalk.i64_in _ (by omega)
            have hw3 : IntKind.i64.wrap (10 * v - y) = 10 * v - y := IntWalk.i64_in _ (by omega)
            clear hq
            go_wp2
            go_round
            case rel => exact ⟨k + 1, 10 * v - y, _, rfl, rfl, by omega, by go_num, HNX2⟩
            case measure => simp [intOf] <;> omega
    · obtain rfl : m = k := by omega
      have HTX := Lib.hid (fun W => rtextv_any v W (by omega) (by omega))
      have HT2 := Lib.hid (HTT.out (textT v))
      have HVZ := Lib.hid (show textT v = l → v < 0 from fun e => by
        rcases Int.lt_or_eq_of_le hv0 with h | h
        · exact h
        · rw [h] at e
          exact absurd e HT0.out)
      unfold StrB at HTX
      obtain ⟨t, ht⟩ : ∃ t, textT v = t := ⟨_, rfl⟩
      simp only [ht] at HTX HT2 HVZ
      clear ht
      by_cases e2 : t = l
      · have g2 := HT2.out.1 e2
        have g3 : ((ba t).toList != s.toList) = false := by simpa using g2
        have e3 := HVZ.out e2
        have g4 : decide (v < 0) = true := decide_eq_true e3
        clear e2
        go_wp2_with fail
        refine (HTX.out _).mono ?_
        rintro e w2 ⟨rfl, hb2⟩
        have HB2 := Lib.hid hb2
        clear hb2
        go_wp2
        go_ret2
        exact parse_none HO.out HB2.out
      · have g2 := HT2.out.2 e2
        have g3 : ((ba t).toList != s.toList) = true := by simpa using g2
        clear e2
        go_wp2_with fail
        refine (HTX.out _).mono ?_
        rintro e w2 ⟨rfl, hb2⟩
        have HB2 := Lib.hid hb2
        clear hb2
        go_wp2
        go_ret2
        exact parse_none HO.out HB2.out
theorem rparse0_any (l : List UInt8) (hi : Int) (w : World) (hl : l.length ≤ 1000000000) (hhi : hi ≤ 9223372036854775807) (hhi0 : 0 ≤ hi) :
    Calls Tryz.prog 150 #[.string (ba l), .int .i64 0, .int .i64 hi] w (ParsePost w (decP l 0 hi)) := by
  by_cases hh : l.head? = some 45
  · exact rparse_neg l hi w hl hh hhi hhi0
  · exact rparse_pos l hh 0 hi w hl (by omega) hhi
end Go.Proofs.YtnpgnohlcphfnaaGreatDoor
