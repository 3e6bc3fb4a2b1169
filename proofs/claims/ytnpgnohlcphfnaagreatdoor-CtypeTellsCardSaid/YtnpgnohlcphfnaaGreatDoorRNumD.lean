/- Reference 1: the contract of Parse. -/
import Derived.Test.YtnpgnohlcphfnaaGreatDoorM16
import Derived.Test.YtnpgnohlcphfnaaGreatDoorM06
namespace Go.Proofs.YtnpgnohlcphfnaaGreatDoor
open Go.RowKit
set_option linter.unusedVariables false

/-- The state of Parse's loop: k digits are read. -/
structure PaSt (d : List UInt8) (k : Nat) (n : Int) : Prop where
  dig : (d.take k).all digitB = true
  val : n = -(decA 0 (d.take k) : Int)
  low : -9223372036854775808 ≤ n
theorem PaSt.start (d : List UInt8) : PaSt d 0 0 := ⟨rfl, rfl, by omega⟩
theorem PaSt.neg {d : List UInt8} {k : Nat} {n : Int} (h : PaSt d k n) : n ≤ 0 := by have := h.val; omega
theorem decA_snoc (a : Nat) (l : List UInt8) (c : UInt8) : decA a (l ++ [c]) = decA a l * 10 + (c.toNat - 48) := by unfold decA; rw [List.foldl_append]; rfl
theorem dec_take {d : List UInt8} {k : Nat} (hk : k < d.length) : decA 0 (d.take (k + 1)) = decA 0 (d.take k) * 10 + (d[k].toNat - 48) := by rw [List.take_succ_eq_append_getElem hk, decA_snoc]
theorem dec_le (d : List UInt8) (k : Nat) : decA 0 (d.take k) ≤ decV d := by
  have h : decV d = decA (decA 0 (d.take k)) (d.drop k) := by
    show decA 0 d = _
    conv => lhs; rw [← List.take_append_drop k d]
    unfold decA
    rw [List.foldl_append]
  rw [h]
  exact decA_ge _ _
theorem PaSt.next {d : List UInt8} {k : Nat} {n y : Int} (hk : k < d.length) (h : PaSt d k n) (hy : (d[k].toNat : Int) = y + 48) (h0 : 0 ≤ y) (h9 : y ≤ 9) (hlow : -9223372036854775808 ≤ 10 * n - y) : PaSt d (k + 1) (10 * n - y) := by
  refine ⟨?_, ?_, hlow⟩
  · rw [List.take_succ_eq_append_getElem hk, List.all_append, h.dig]
    have : digitB d[k] = true := digitB_nat.2 (by omega)
    simp [this]
  · rw [dec_take hk, h.val]
    omega
theorem parse_bad {l d : List UInt8} {k : Nat} (hd : decD l = d) (hk : k < d.length) {y : Int} (hy : (d[k].toNat : Int) = y + 48) (hb : y < 0 ∨ 9 < y) (lo hi : Int) : decP l lo hi = none := by
  rw [decP_eq, if_neg]
  rintro ⟨⟨h1, _⟩, _⟩
  rw [hd] at h1
  have := digitB_nat.1 (List.all_eq_true.1 h1 _ (List.getElem_mem hk))
  omega
theorem parse_far {l d : List UInt8} (hd : decD l = d) {lo hi : Int} (hlo : -9223372036854775808 ≤ lo) (hhi : hi ≤ 9223372036854775807) (h : 9223372036854775808 < decV d) : decP l lo hi = none := by
  rw [decP_eq, if_neg]
  rintro ⟨_, h1, h2⟩
  have h3 : decN l = -(decV (decD l) : Int) ∨ decN l = (decV (decD l) : Int) := by
    unfold decN
    split
    · exact .inl rfl
    · exact .inr rfl
  rw [hd] at h3
  omega
theorem parse_over {l d : List UInt8} {k : Nat} {n y : Int} (hd : decD l = d) (hk : k < d.length) (h : PaSt d k n) (hy : (d[k].toNat : Int) = y + 48) (h0 : 0 ≤ y) (hlow : 10 * n - y < -9223372036854775808) {lo hi : Int} (hlo : -9223372036854775808 ≤ lo) (hhi : hi ≤ 9223372036854775807) : decP l lo hi = none := by
  refine parse_far hd hlo hhi ?_
  have h1 := dec_le d (k + 1)
  rw [dec_take hk] at h1
  have := h.val
  omega
theorem parse_end {l : List UInt8} {v : Int} (hv : decN l = v) (lo hi : Int) : decP l lo hi = if textT v = l ∧ lo ≤ v ∧ v ≤ hi then some v else none := by
  rw [decP_eq, hv]
  have : canonB l ↔ textT v = l := by
    constructor
    · intro h
      rw [← hv]
      exact textT_canon h
    · intro h
      rw [← h]
      exact (textT_isCanon v).1
  simp only [this]
theorem min_div {y : Int} (h0 : 0 ≤ y) (h1 : y ≤ 9) : (-9223372036854775808 + y).tdiv 10 = -((9223372036854775808 - y) / 10) := by
  rw [show -9223372036854775808 + y = -(9223372036854775808 - y) by omega, Int.neg_tdiv, Int.tdiv_eq_ediv_of_nonneg (by omega)]
theorem decD_neg {r : List UInt8} : decD (45 :: r) = r := rfl
theorem decN_neg {r : List UInt8} : decN (45 :: r) = -(decV r : Int) := rfl
theorem decD_pos {l : List UInt8} (h : ¬ l.head? = some 45) : decD l = l := by unfold decD; rw [if_neg h]
theorem decN_pos {l : List UInt8} (h : ¬ l.head? = some 45) : decN l = (decV l : Int) := by unfold decN; rw [if_neg h, decD_pos h]
/-- The text of the number met against the string. -/
theorem text_tests (t l : List UInt8) (s : ByteArray) (hs : ba l = s) : (t = l → (ba t).toList = s.toList) ∧ (¬ t = l → ¬ (ba t).toList = s.toList) := by
  rw [← hs, ba_toList, ba_toList]
  exact ⟨id, id⟩
set_option maxRecDepth 100000 in
set_option maxHeartbeats 4000000 in
theorem rparse_pos (l : List UInt8) (hh : ¬ l.head? = some 45) (lo hi : Int) (w : World) (hl : l.length ≤ 1000000000) (hlo : -9223372036854775808 ≤ lo) (hhi : hi ≤ 9223372036854775807) :
    Calls Tryz.prog 150 #[.string (ba l), .int .i64 lo, .int .i64 hi] w (ParsePost w (decP l lo hi)) := by
  have HDD := Lib.hid (decD_pos hh)
  have HDN := Lib.hid (decN_pos hh)
  have HEND := Lib.hid (fun v (hv : decN l = v) => parse_end hv lo hi)
  have HTT := Lib.hid (fun t => text_tests t l (ba l) rfl)
  have HFAR := Lib.hid (parse_far (lo := lo) (hi := hi) HDD.out hlo hhi)
  have HHD := Lib.hid hh
  clear hh
  have HBAD := Lib.hid (fun k (hk : k < l.length) (y : Int) hy hb => parse_bad (y := y) HDD.out hk hy hb lo hi)
  have HOV := Lib.hid (fun k (hk : k < l.length) (n y : Int) (h : PaSt l k n) hy h0 hlow => parse_over (y := y) HDD.out hk h hy h0 hlow hlo hhi)
  have HNX := Lib.hid (fun k (hk : k < l.length) (n y : Int) (h : PaSt l k n) hy h0 h9 hlow => PaSt.next (y := y) hk h hy h0 h9 hlow)
  obtain ⟨o, ho⟩ : ∃ o, decP l lo hi = o := ⟨_, rfl⟩
  simp only [ho] at HEND HFAR HBAD HOV
  rw [ho]
  clear ho
  obtain ⟨n, hn⟩ : ∃ n, l.length = n := ⟨_, rfl⟩
  have HL := Lib.hid hn
  obtain ⟨s, hs⟩ : ∃ s, ba l = s := ⟨_, rfl⟩
  have HS := Lib.hid hs
  have HZ := Lib.hid (show s.size = n by rw [← hs, ba_size, hn])
  have hsz : (s.size : Int) = n := by rw [HZ.out]
  rw [hs]
  rw [hn] at hl
  clear hs hn
  rw [HS.out] at HTT
  have hfirst : n = 0 ∨ (0 < n ∧ 0 < s.size ∧ ∀ h : 0 < s.size, ((s[0]'h).toNat : Int) ≠ 45) := by
    cases hq : l with
    | nil => exact .inl (by rw [← HL.out, hq]; rfl)
    | cons c r =>
      have hn0 : 0 < n := by rw [← HL.out, hq]; simp
      refine .inr ⟨hn0, by rw [HZ.out]; exact hn0, fun h e => ?_⟩
      have hS := HS.out
      subst hS
      have e1 : (ba l)[0] = c := by
        have : (ba l)[0] = l[0]'(by rw [HL.out]; exact hn0) := rfl
        rw [this]
        simp [hq]
      rw [e1] at e
      exact HHD.out (by rw [hq]; exact congrArg some (UInt8.toNat_inj.1 (by show c.toNat = 45; omega)))
  rcases hfirst with hn0 | ⟨hn0, hs0, hne⟩
  · have HV := Lib.hid (show o = none by
      have h := HEND.out 0 (by
        rw [HDN.out]
        have hq : l = [] := List.eq_nil_of_length_eq_zero (by rw [HL.out]; exact hn0)
        rw [hq]
        rfl)
      rw [h, if_neg]
      rintro ⟨h1, _⟩
      have hq : l = [] := List.eq_nil_of_length_eq_zero (by rw [HL.out]; exact hn0)
      rw [hq] at h1
      exact absurd h1 (by rw [textT_digit (by omega) (by omega)]; simp))
    have g1 : ¬ (0 : Int) < (n : Int) := by omega
    have g2 : decide ((0 : Int) < (n : Int)) = false := decide_eq_false g1
    have g3 := (HTT.out (textT 0)).2 (by
      have hq : l = [] := List.eq_nil_of_length_eq_zero (by rw [HL.out]; exact hn0)
      rw [hq, textT_digit (by omega) (by omega)]
      simp)
    have HTX := Lib.hid (rtextv_any 0 w (by omega) (by omega))
    unfold StrB at HTX
    obtain ⟨t, ht⟩ : ∃ t, textT 0 = t := ⟨_, rfl⟩
    rw [ht] at g3
    simp only [ht] at HTX
    have g4 : ((ba t).toList == s.toList) = false := by simpa using g3
    have g5 : ((ba t).toList != s.toList) = true := by simpa using g3
    clear ht
    subst hn0
    go_enter Tryz.func150, Tryz.ntmps150
    go_wp2
    go_loop [10, 11, 12] (fun nn i c => ∃ y : Value, c = y ∧ nn = .int .i64 0 ∧ i = .int .i64 0) (fun _ _ _ => 0)
    case atStart => exact ⟨_, rfl, rfl, rfl⟩
    case round =>
      obtain ⟨y, rfl, rfl, rfl⟩ := hrel
      go_wp2_with fail
      refine HTX.out.mono ?_
      rintro e w2 ⟨rfl, hb2⟩
      have HB2 := Lib.hid hb2
      clear hb2
      go_wp2
      go_ret2
      exact parse_none HV.out HB2.out
  · have hne2 := hne hs0
    have g0 : (((s[0]'hs0).toNat : Int) == 45) = false := by simpa using hne2
    have g1 : (0 : Int) < (n : Int) := by omega
    have g2 : decide ((0 : Int) < (n : Int)) = true := decide_eq_true g1
    clear hne
    go_enter Tryz.func150, Tryz.ntmps150
    go_wp2
    clear g1 g2
    go_loop [10, 11, 12] (fun nn i c => ∃ (k : Nat) (v : Int) (y : Value), c = y ∧ nn = .int .i64 v ∧ k ≤ n ∧ i = .int .i64 (k : Int) ∧ Hid (PaSt l k v)) (fun _ i _ => n - (intOf i).toNat)
    case atStart => exact ⟨0, 0, _, rfl, rfl, Nat.zero_le _, rfl, Lib.hid (PaSt.start l)⟩
    case round =>
      obtain ⟨k, v, y0, rfl, rfl, hk, rfl, HR⟩ := hrel
      have hv0 : v ≤ 0 := HR.out.neg
      have hv1 : -9223372036854775808 ≤ v := HR.out.low
      by_cases hlt : k < n
      · have hk2 : (k : Int) < (n : Int) := by omega
        have hk0 : (0 : Int) ≤ (k : Int) := by omega
        have hks : k < s.size := by rw [HZ.out]; omega
        have hkl : k < l.length := by rw [HL.out]; omega
        have hget : s[k] = l[k] := by
          have h := HS.out
          subst h
          rfl
        have HN1 := Lib.hid (HNX.out k hkl v)
        have HO1 := Lib.hid (HOV.out k hkl v)
        have HB1 := Lib.hid (HBAD.out k hkl)
        obtain ⟨y, hy⟩ : ∃ y : Int, (l[k].toNat : Int) = y + 48 := ⟨(l[k].toNat : Int) - 48, by omega⟩
        have hyb : -48 ≤ y ∧ y ≤ 207 := by have := l[k].toNat_lt; omega
        obtain ⟨hyb1, hyb2⟩ := hyb
        have hgi : ((s[k]).toNat : Int) = y + 48 := by rw [hget]; exact hy
        have HY := Lib.hid hy
        clear hy hget
        by_cases e1 : y < 0
        · have HV := Lib.hid (HB1.out y HY.out (.inl e1))
          have g1 : decide (y < 0) = true := decide_eq_true e1
          go_wp2
          go_ret2
          exact parse_none HV.out (Below.refl _ _)
        · have g1 : decide (y < 0) = false := decide_eq_false e1
          by_cases e2 : 9 < y
          · have HV := Lib.hid (HB1.out y HY.out (.inr e2))
            have g2 : decide (9 < y) = true := decide_eq_true e2
            go_wp2
            go_ret2
            exact parse_none HV.out (Below.refl _ _)
          · have g2 : decide (9 < y) = false := decide_eq_false e2
            have hq := min_div (y := y) (by omega) (by omega)
            obtain ⟨q, hqq⟩ : ∃ q, (-9223372036854775808 + y).tdiv 10 = q := ⟨_, rfl⟩
            rw [hqq] at hq
            have hq0 : -922337203685477580 ≤ q ∧ q ≤ -922337203685477579 := by omega
            have hw0 : IntKind.i64.wrap (-9223372036854775808 + y) = -9223372036854775808 + y := IntWalk.i64_in _ (by omega)
            have hw1 : IntKind.i64.wrap q = q := IntWalk.i64_in _ (by omega)
            by_cases e3 : v < q
            · have HV := Lib.hid (HO1.out y HR.out HY.out (by omega) (by omega))
              have g3 : decide (v < q) = true := decide_eq_true e3
              clear hq
              go_wp2
              go_ret2
              exact parse_none HV.out (Below.refl _ _)
            · have g3 : decide (v < q) = false := decide_eq_false e3
              have HNX2 := Lib.hid (HN1.out y HR.out HY.out (by omega) (by omega) (by omega))
              have hw2 : IntKind.i64.wrap (10 * v) = 10 * v := IntWalk.i64_in _ (by omega)
              have hw3 : IntKind.i64.wrap (10 * v - y) = 10 * v - y := IntWalk.i64_in _ (by omega)
              clear hq
              go_wp2
              go_round
              case rel => exact ⟨k + 1, 10 * v - y, _, rfl, rfl, by omega, by go_num, HNX2⟩
              case measure => simp [intOf] <;> omega
      · obtain rfl : k = n := by omega
        have HDV := Lib.hid (show v = -(decV l : Int) by
          have h := HR.out.val
          rw [List.take_of_length_le (by rw [HL.out]; exact Nat.le_refl _)] at h
          exact h)
        by_cases e1 : v = -9223372036854775808
        · have HV := Lib.hid (show o = none by
            have h := HEND.out (-v) (by rw [HDN.out, HDV.out]; omega)
            rw [h, if_neg]
            rintro ⟨_, _, h2⟩
            omega)
          subst e1
          go_wp2
          go_ret2
          exact parse_none HV.out (Below.refl _ _)
        · have g1 : (v == -9223372036854775808) = false := by simpa using e1
          have HE := Lib.hid (HEND.out (-v) (by rw [HDN.out, HDV.out]; omega))
          have hw2 : IntKind.i64.wrap (-v) = -v := IntWalk.i64_in _ (by omega)
          have HTX := Lib.hid (fun W => rtextv_any (-v) W (by omega) (by omega))
          have HT2 := Lib.hid (HTT.out (textT (-v)))
          unfold StrB at HTX
          obtain ⟨t, ht⟩ : ∃ t, textT (-v) = t := ⟨_, rfl⟩
          simp only [ht] at HTX HT2 HE
          clear ht
          by_cases e2 : t = l
          · have g2 := HT2.out.1 e2
            have g3 : ((ba t).toList != s.toList) = false := by simpa using g2
            by_cases e3 : -v < lo
            · have HV := Lib.hid (show o = none by rw [HE.out, if_neg]; rintro ⟨_, h2, _⟩; omega)
              have g4 : decide (-v < lo) = true := decide_eq_true e3
              clear e2
              go_wp2_with fail
              refine (HTX.out _).mono ?_
              rintro e w2 ⟨rfl, hb2⟩
              have HB2 := Lib.hid hb2
              clear hb2
              go_wp2
              go_ret2
              exact parse_none HV.out HB2.out
            · have g4 : decide (-v < lo) = false := decide_eq_false e3
              by_cases e4 : hi < -v
              · have HV := Lib.hid (show o = none by rw [HE.out, if_neg]; rintro ⟨_, _, h2⟩; omega)
                have g5 : decide (hi < -v) = true := decide_eq_true e4
                clear e2
                go_wp2_with fail
                refine (HTX.out _).mono ?_
                rintro e w2 ⟨rfl, hb2⟩
                have HB2 := Lib.hid hb2
                clear hb2
                go_wp2
                go_ret2
                exact parse_none HV.out HB2.out
              · have HV := Lib.hid (show o = some (-v) by rw [HE.out, if_pos ⟨e2, by omega, by omega⟩])
                have g5 : decide (hi < -v) = false := decide_eq_false e4
                clear e2
                go_wp2_with fail
                refine (HTX.out _).mono ?_
                rintro e w2 ⟨rfl, hb2⟩
                have HB2 := Lib.hid hb2
                clear hb2
                go_wp2
                go_ret2
                exact parse_some HV.out HB2.out
          · have HV := Lib.hid (show o = none by rw [HE.out, if_neg fun h => e2 h.1])
            have g2 := HT2.out.2 e2
            have g3 : ((ba t).toList != s.toList) = true := by simpa using g2
            clear e2
            go_wp2_with fail
            refine (HTX.out _).mono ?_
            rintro e w2 ⟨rfl, hb2⟩
            have HB2 := Lib.hid hb2
            clear hb2
            go_wp2
            go_ret2
            exact parse_none HV.out HB2.out
end Go.Proofs.YtnpgnohlcphfnaaGreatDoor
