/- Layer 9: the contracts of end, goes, bare, Right, Unfold, small. -/
import Derived.Test.YtnpgnohlcphfnaaGreatDoorHdP
import Derived.Test.YtnpgnohlcphfnaaGreatDoorM07
import Derived.Test.YtnpgnohlcphfnaaGreatDoorM10
import Derived.Shelf.Strings.SlTrimAscii
namespace Go.Proofs.YtnpgnohlcphfnaaGreatDoor
open Go.RowKit
set_option linter.unusedVariables false

theorem indexV (c : UInt8) (l : List UInt8) : Lib.indexByte l c = match cutP c l with
    | some q => (q.1.length : Int)
    | none => -1 := by
  cases h : cutP c l with
  | none =>
    have h1 := cutP_none.1 h
    rcases Int.lt_or_le (Lib.indexByte l c) 0 with h2 | h2
    · have h3 := Lib.indexByte_ge l c
      show _ = -1
      omega
    · obtain ⟨o, ho⟩ : ∃ o : Nat, Lib.indexByte l c = o := ⟨(Lib.indexByte l c).toNat, by omega⟩
      have h4 := (Lib.indexByte_some ho).1
      exact absurd (List.mem_of_getElem? h4) h1
  | some q =>
    obtain ⟨a, b⟩ := q
    have h1 := cutP_some h
    show _ = (a.length : Int)
    have h0 : l[a.length]? = some c := by rw [h1.1]; simp
    rcases Int.lt_or_le (Lib.indexByte l c) 0 with h2 | h2
    · have h3 := Lib.indexByte_ge l c
      exact absurd h0 (Lib.indexByte_none (by omega) a.length)
    · obtain ⟨o, ho⟩ : ∃ o : Nat, Lib.indexByte l c = o := ⟨(Lib.indexByte l c).toNat, by omega⟩
      have h4 := Lib.indexByte_some ho
      rw [ho]
      rcases Nat.lt_trichotomy o a.length with h5 | h5 | h5
      · have h6 := h4.1
        rw [h1.1, List.getElem?_append_left h5] at h6
        exact absurd (List.mem_of_getElem? h6) h1.2
      · rw [h5]
      · exact absurd h0 (h4.2 _ h5)
theorem hend_any (l : List UInt8) (w : World) (hl : l.length ≤ 1000000000) :
    Calls Tryz.prog 52 #[.string (ba l)] w fun e w' => e = .returned (.int .i64 (endP l : Nat)) ∧ w' = w := by
  have HIX := Lib.hid (indexb_any 10 l w)
  rw [indexV] at HIX
  cases h : cutP 10 l with
  | none =>
    have HF := Lib.hid (show endP l = l.length by unfold endP; rw [h])
    have hz : ((ba l).size : Int) = (l.length : Nat) := by rw [ba_size]
    rw [h] at HIX
    have HIY := Lib.hid (show Calls Tryz.prog 67 #[.string (ba l), .int .u8 ((10 : UInt8).toNat : Int)] w (fun e w' => e = .returned (.int .i64 (-1)) ∧ w' = w) from HIX.out)
    clear h HIX
    go_enter Tryz.func52, Tryz.ntmps52
    go_wp2_with fail
    refine HIY.out.mono ?_
    rintro e w2 ⟨rfl, hw⟩
    have hw2 := hw.symm
    subst hw2
    clear hw
    go_wp2
    go_ret
    exact ⟨by rw [HF.out]; rfl, rfl⟩
  | some q =>
    have hq := (cutP_some (a := q.1) (b := q.2) h).1
    have hql : q.1.length ≤ 1000000000 := by rw [hq] at hl; simp at hl; omega
    have HF := Lib.hid (show endP l = q.1.length + 1 by unfold endP; rw [h])
    rw [h] at HIX
    have HIY := Lib.hid (show Calls Tryz.prog 67 #[.string (ba l), .int .u8 ((10 : UInt8).toNat : Int)] w (fun e w' => e = .returned (.int .i64 (q.1.length : Int)) ∧ w' = w) from HIX.out)
    obtain ⟨m, hm⟩ : ∃ m, q.1.length = m := ⟨_, rfl⟩
    rw [hm] at HIY HF hql
    have hm0 : (0 : Int) ≤ (m : Int) := by omega
    have hmi : (m : Int) ≤ 1000000000 := by omega
    clear h HIX hq hm
    go_enter Tryz.func52, Tryz.ntmps52
    go_wp2_with fail
    refine HIY.out.mono ?_
    rintro e w2 ⟨rfl, hw⟩
    have hw2 := hw.symm
    subst hw2
    clear hw
    go_wp2
    go_ret
    exact ⟨by rw [HF.out]; rfl, rfl⟩
theorem tab_index (c : UInt8) : decide (0 ≤ Lib.indexByte [32, 9] c) = tabB c := by
  rw [indexV]
  unfold tabB cutP cutP cutP
  by_cases h1 : c = 32
  · subst h1; rfl
  · by_cases h2 : c = 9
    · subst h2; rfl
    · rw [if_neg (fun h => h1 h.symm), if_neg (fun h => h2 h.symm), decide_eq_false h1, decide_eq_false h2]
      rfl
theorem hgoes_any (l : List UInt8) (w : World) : Calls Tryz.prog 54 #[.string (ba l)] w fun e w' => e = .returned (.bool (goesP l)) ∧ w' = w := by
  cases l with
  | nil =>
    have g1 : (ba ([] : List UInt8)).toList.isEmpty = true := by rw [ba_toList]; rfl
    go_enter Tryz.func54, Tryz.ntmps54
    go_wp2
    go_ret
    exact ⟨rfl, rfl⟩
  | cons c r =>
    have g1 : (ba (c :: r)).toList.isEmpty = false := by rw [ba_toList]; rfl
    have HIX := Lib.hid (show Calls Tryz.prog 67 #[.string ⟨#[32, 9]⟩, .int .u8 (c.toNat : Int)] w (fun e w' => e = .returned (.int .i64 (Lib.indexByte [32, 9] c)) ∧ w' = w) from indexb_any c [32, 9] w)
    have HV := Lib.hid (show goesP (c :: r) = decide (0 ≤ Lib.indexByte [32, 9] c) from (tab_index c).symm)
    obtain ⟨v, hv⟩ : ∃ v, Lib.indexByte [32, 9] c = v := ⟨_, rfl⟩
    obtain ⟨o, ho⟩ : ∃ b, goesP (c :: r) = b := ⟨_, rfl⟩
    rw [hv] at HIX HV
    rw [ho] at HV ⊢
    have hsz : 0 < (ba (c :: r)).size := by rw [ba_size]; simp
    obtain ⟨x, hx⟩ : ∃ x : Int, (c.toNat : Int) = x := ⟨_, rfl⟩
    have hgi : ∃ h : 0 < (ba (c :: r)).size, (((ba (c :: r))[0]'h).toNat : Int) = x := ⟨hsz, hx⟩
    rw [hx] at HIX
    obtain ⟨s, hs⟩ : ∃ s, ba (c :: r) = s := ⟨_, rfl⟩
    rw [hs] at g1 hgi ⊢
    clear hs hv ho hx hsz
    obtain ⟨hsz, hgj⟩ := hgi
    go_enter Tryz.func54, Tryz.ntmps54
    go_wp2_with fail
    refine HIX.out.mono ?_
    rintro e w2 ⟨rfl, hw⟩
    have hw2 := hw.symm
    subst hw2
    clear hw
    go_wp2
    go_ret
    exact ⟨by rw [HV.out]; rfl, rfl⟩
/-- A byte at the end taken off. -/
def trimC (c : UInt8) (l : List UInt8) : List UInt8 := if l.getLast? = some c then l.dropLast else l
theorem suffix_one (c : UInt8) (l : List UInt8) : Lib.hasSuffix l [c] = decide (l.getLast? = some c) := by
  unfold Lib.hasSuffix
  rw [Bool.eq_iff_iff, decide_eq_true_iff, List.isSuffixOf_iff_suffix]
  constructor
  · rintro ⟨t, rfl⟩
    simp
  · intro h
    obtain ⟨t, ht⟩ := List.getLast?_eq_some_iff.1 h
    exact ⟨t, ht.symm⟩
theorem trimC_eq (c : UInt8) (l : List UInt8) : Lib.trimSuffix l [c] = trimC c l := by
  unfold Lib.trimSuffix trimC
  rw [suffix_one]
  by_cases h : l.getLast? = some c
  · rw [decide_eq_true h, if_pos rfl, if_pos h, List.dropLast_eq_take]
    rfl
  · rw [decide_eq_false h, if_neg h]
    rfl
theorem cutsuf_any (c : UInt8) (l : List UInt8) (w : World) (hl : l.length ≤ 1000000000) :
    Calls Tryz.prog 82 #[.string (ba l), .string ⟨#[c]⟩] w fun e w' => e = .returned (.tuple #[.string (ba (trimC c l)), .bool (decide (l.getLast? = some c))]) ∧ w' = w := by
  refine (Tryz.strings_CutSuffix (ba l) ⟨#[c]⟩ w (by rw [ba_size]; omega)).mono ?_
  rintro e w' ⟨rfl, rfl⟩
  refine ⟨?_, rfl⟩
  have e1 : Lib.trimSuffix (ba l).data.toList (⟨#[c]⟩ : ByteArray).data.toList = trimC c l := by rw [ba_list]; exact trimC_eq c l
  have e2 : Lib.hasSuffix (ba l).data.toList (⟨#[c]⟩ : ByteArray).data.toList = decide (l.getLast? = some c) := by rw [ba_list]; exact suffix_one c l
  rw [e1, e2]
  rfl
theorem trimsuf_any (c : UInt8) (l : List UInt8) (w : World) (hl : l.length ≤ 1000000000) :
    Calls Tryz.prog 83 #[.string (ba l), .string ⟨#[c]⟩] w fun e w' => e = .returned (.string (ba (trimC c l))) ∧ w' = w := by
  refine (Tryz.strings_TrimSuffix (ba l) ⟨#[c]⟩ w (by rw [ba_size]; omega)).mono ?_
  rintro e w' ⟨rfl, rfl⟩
  refine ⟨?_, rfl⟩
  have e1 : Lib.trimSuffix (ba l).data.toList (⟨#[c]⟩ : ByteArray).data.toList = trimC c l := by rw [ba_list]; exact trimC_eq c l
  rw [e1]
  rfl
theorem hbare_any (l : List UInt8) (w : World) (hl : l.length ≤ 1000000000) :
    Calls Tryz.prog 53 #[.string (ba l)] w fun e w' => e = .returned (.string (ba (nudeP l))) ∧ w' = w := by
  have HC := Lib.hid (cutsuf_any 10 l w hl)
  by_cases h : l.getLast? = some 10
  · have HF := Lib.hid (show nudeP l = trimC 13 (trimC 10 l) by unfold nudeP trimC; rw [if_pos h, if_pos h])
    have HT := Lib.hid (trimsuf_any 13 (trimC 10 l) w (by unfold trimC; rw [if_pos h, List.length_dropLast]; omega))
    rw [decide_eq_true h] at HC
    clear h
    go_enter Tryz.func53, Tryz.ntmps53
    go_wp2_with fail
    refine HC.out.mono ?_
    rintro e w2 ⟨rfl, hw⟩
    have hw2 := hw.symm
    subst hw2
    clear hw
    go_wp2_with fail
    refine HT.out.mono ?_
    rintro e w2 ⟨rfl, hw⟩
    have hw2 := hw.symm
    subst hw2
    clear hw
    go_wp2
    go_ret
    exact ⟨by rw [HF.out]; rfl, rfl⟩
  · have HF := Lib.hid (show nudeP l = l by unfold nudeP; rw [if_neg h])
    rw [decide_eq_false h] at HC
    clear h
    go_enter Tryz.func53, Tryz.ntmps53
    go_wp2_with fail
    refine HC.out.mono ?_
    rintro e w2 ⟨rfl, hw⟩
    have hw2 := hw.symm
    subst hw2
    clear hw
    go_wp2
    go_ret
    exact ⟨by rw [HF.out]; rfl, rfl⟩
theorem nameB_int (c : UInt8) {x : Int} (h : (c.toNat : Int) = x) : nameB c = (!(decide (x ≤ 32) || decide (126 < x) || x == 58)) := by
  unfold nameB
  have e1 : (33 ≤ c ∧ c ≤ 126) ↔ (33 ≤ x ∧ x ≤ 126) := by
    rw [UInt8.le_iff_toNat_le, UInt8.le_iff_toNat_le]
    show (33 : Nat) ≤ _ ∧ _ ≤ (126 : Nat) ↔ _
    omega
  have e2 : c ≠ 58 ↔ x ≠ 58 := by
    rw [← h]
    constructor
    · intro h2 h3
      exact h2 (UInt8.toNat_inj.1 (by show c.toNat = 58; omega))
    · rintro h2 rfl
      exact h2 rfl
  rw [Bool.eq_iff_iff]
  simp only [e1, e2, Bool.and_eq_true, decide_eq_true_eq, Bool.not_eq_true', Bool.or_eq_false_iff, decide_eq_false_iff_not, beq_eq_false_iff_ne]
  omega
theorem nameOk_stop {l : List UInt8} {k : Nat} (hk : k < l.length) (h : nameB l[k] = false) : nameOk l = false := by
  unfold nameOk
  rw [all_stop hk h]
  rfl
set_option maxRecDepth 100000 in
set_option maxHeartbeats 4000000 in
theorem hright_any (l : List UInt8) (w : World) (hl : l.length ≤ 1000000000) :
    Calls Tryz.prog 56 #[.string (ba l)] w fun e w' => e = .returned (.bool (nameOk l)) ∧ w' = w := by
  have HEM := Lib.hid (show nameOk l = (l.all nameB && !(ba l).toList.isEmpty) by rw [ba_toList]; rfl)
  obtain ⟨be, hbe⟩ : ∃ b, (ba l).toList.isEmpty = b := ⟨_, rfl⟩
  rw [hbe] at HEM
  obtain ⟨n, hn⟩ : ∃ n, l.length = n := ⟨_, rfl⟩
  have HL := Lib.hid hn
  obtain ⟨s, hs⟩ : ∃ s, ba l = s := ⟨_, rfl⟩
  have HS := Lib.hid hs
  have HZ := Lib.hid (show s.size = n by rw [← hs, ba_size, hn])
  have hsz : (s.size : Int) = n := by rw [HZ.out]
  rw [hs]
  rw [hn] at hl
  clear hs hn
  rw [HS.out] at hbe
  go_enter Tryz.func56, Tryz.ntmps56
  go_wp2
  go_loop [3, 4, 7] (fun a b i => ∃ (k : Nat) (y z : Value), a = y ∧ b = z ∧ k ≤ n ∧ i = .int .i64 (k : Int) ∧ Hid ((l.take k).all nameB = true)) (fun _ _ i => n - (intOf i).toNat)
  case atStart => exact ⟨0, _, _, rfl, rfl, Nat.zero_le _, rfl, Lib.hid rfl⟩
  case round =>
    obtain ⟨k, y, z, rfl, rfl, hk, rfl, HR⟩ := hrel
    by_cases hlt : k < n
    · have hk2 : (k : Int) < (n : Int) := by omega
      have hk0 : (0 : Int) ≤ (k : Int) := by omega
      have hks : k < s.size := by rw [HZ.out]; omega
      have hkl : k < l.length := by rw [HL.out]; omega
      have hget : s[k] = l[k] := by
        have h := HS.out
        subst h
        rfl
      have HST := Lib.hid (all_snoc (f := nameB) hkl HR.out)
      have HIT := Lib.hid (nameOk_stop hkl)
      obtain ⟨c, hc⟩ : ∃ c, l[k] = c := ⟨_, rfl⟩
      rw [hc] at hget HST HIT
      obtain ⟨x, hx⟩ : ∃ x : Int, (c.toNat : Int) = x := ⟨_, rfl⟩
      have hgi : ((s[k]).toNat : Int) = x := by rw [hget]; exact hx
      have HX := Lib.hid hx
      have hx0 : 0 ≤ x := by omega
      have hx1 : x ≤ 255 := by have := c.toNat_lt; omega
      clear hc hkl hget hx
      have HNB := Lib.hid (nameB_int c HX.out)
      by_cases e1 : x ≤ 32
      · have g1 : decide (x ≤ 32) = true := decide_eq_true e1
        have HV := Lib.hid (HIT.out (by rw [HNB.out, g1]; rfl))
        clear e1
        go_wp2
        go_ret
        exact ⟨by rw [HV.out]; rfl, rfl⟩
      · have g1 : decide (x ≤ 32) = false := decide_eq_false e1
        by_cases e2 : 126 < x
        · have g2 : decide (126 < x) = true := decide_eq_true e2
          have HV := Lib.hid (HIT.out (by rw [HNB.out, g1, g2]; rfl))
          clear e1 e2
          go_wp2
          go_ret
          exact ⟨by rw [HV.out]; rfl, rfl⟩
        · have g2 : decide (126 < x) = false := decide_eq_false e2
          by_cases e3 : x = 58
          · have g3 : (x == 58) = true := by simpa using e3
            have HV := Lib.hid (HIT.out (by rw [HNB.out, g1, g2, g3]; rfl))
            clear e1 e2 e3
            go_wp2
            go_ret
            exact ⟨by rw [HV.out]; rfl, rfl⟩
          · have g3 : (x == 58) = false := by simpa using e3
            have HV := Lib.hid (show (l.take (k + 1)).all nameB = true by rw [HST.out, HNB.out, g1, g2, g3]; rfl)
            clear e1 e2 e3
            go_wp2
            go_round
            case rel => exact ⟨k + 1, _, _, rfl, rfl, by omega, by go_num, HV⟩
            case measure => simp [intOf] <;> omega
    · obtain rfl : k = n := by omega
      have HV := Lib.hid (show nameOk l = !be by
        have := HR.out
        rw [List.take_of_length_le (by rw [HL.out]; exact Nat.le_refl _)] at this
        rw [HEM.out, this]
        rfl)
      cases be
      all_goals
        go_wp2
        go_ret
        exact ⟨by rw [HV.out]; rfl, rfl⟩
theorem htrim_any (l : List UInt8) (w : World) (hl : l.length ≤ 1000000000) :
    Calls Tryz.prog 59 #[.string (ba l), .string ⟨#[32, 9]⟩] w (StrB w (Lib.trimS l blanksP)) := by
  refine (Any.strings_Trim_laid Tryz.lays160 (by kernel_rfl) (ba l) ⟨#[32, 9]⟩ w (by rw [ba_size]; omega) (by decide) (ascii_of_all (by decide))).mono ?_
  rintro e w' ⟨rfl, hb⟩
  refine ⟨?_, hb⟩
  rw [ba_list]
  rfl
theorem htrimR_any (l : List UInt8) (w : World) (hl : l.length ≤ 1000000000) :
    Calls Tryz.prog 84 #[.string (ba l), .string ⟨#[32, 9]⟩] w (StrB w (Lib.trimRightS l blanksP)) := by
  refine (Any.strings_TrimRight_laid Tryz.lays162 (by kernel_rfl) (ba l) ⟨#[32, 9]⟩ w (by rw [ba_size]; omega) (by decide) (ascii_of_all (by decide))).mono ?_
  rintro e w' ⟨rfl, hb⟩
  refine ⟨?_, hb⟩
  rw [ba_list]
  rfl
theorem repall_any (old l : List UInt8) (w : World) (h : old ≠ []) (hl : l.length ≤ 1000000000) (hT : Tabs w) :
    Calls Tryz.prog 131 #[.string (ba l), .string (ba old), .string ⟨#[]⟩] w (StrB w (repA old [] l)) := by
  obtain ⟨m, hm⟩ := hT.max
  refine (Tryz.strings_ReplaceAll (ba l) (ba old) ⟨#[]⟩ m w (by rw [ba_size]; omega) hm (by rw [ba_size]; cases old with | nil => exact absurd rfl h | cons c r => simp) (by rw [ba_size]; show l.length + _ * 0 ≤ _; omega)).mono ?_
  rintro e w' ⟨rfl, hb⟩
  refine ⟨?_, hb⟩
  rw [ba_list, ba_list]
  have e1 : Lib.replaceAll l old (⟨#[]⟩ : ByteArray).data.toList = repA old [] l := replaceAll_eq h l
  rw [e1]
  rfl
theorem hunfold_any (l : List UInt8) (w : World) (hl : l.length ≤ 1000000000) (hT : Tabs w) :
    Calls Tryz.prog 97 #[.string (ba l)] w (StrB w (unfoldP l)) := by
  have HR1 := Lib.hid (show Calls Tryz.prog 131 #[.string (ba l), .string ⟨#[13, 10]⟩, .string ⟨#[]⟩] w (StrB w (repA [13, 10] [] l)) from repall_any [13, 10] l w (by simp) hl hT)
  rw [crlf_eq _ l (Nat.le_refl _)] at HR1
  have hlen := crlfP_len _ l (Nat.le_refl _)
  have HR2 := Lib.hid (show ∀ W, Below w.heap.size w W → Calls Tryz.prog 131 #[.string (ba (crlfP l)), .string ⟨#[10]⟩, .string ⟨#[]⟩] W (StrB W (unfoldP l)) from fun W hW => by
    have h := repall_any [10] (crlfP l) W (by simp) (by omega) (hT.below hW)
    rw [lf_eq] at h
    exact h)
  clear hlen hT
  go_enter Tryz.func97, Tryz.ntmps97
  go_wp2_with fail
  refine HR1.out.mono ?_
  rintro e w1 ⟨rfl, hb1⟩
  have HB1 := Lib.hid hb1
  clear hb1
  go_wp2_with fail
  refine (HR2.out w1 HB1.out).mono ?_
  rintro e w2 ⟨rfl, hb2⟩
  have HB2 := Lib.hid (HB1.out.trans (hb2.mono HB1.out.size))
  clear hb2
  go_wp2
  go_ret
  exact ⟨rfl, HB2.out⟩
end Go.Proofs.YtnpgnohlcphfnaaGreatDoor
