/- Layer 6: the contract of Qp (printed by gen_qp. Layer 9: the contract of Parse (a header section's fields). Layer 6: the contract of B64. -/
import Derived.Lib.BufferWrite
import Derived.Test.YthidbmeaccpjdaaGreatDoorM32
import Derived.Test.YthidbmeaccpjdaaGreatDoorM14
import Derived.Test.YthidbmeaccpjdaaGreatDoorM04
import Derived.Test.YthidbmeaccpjdaaGreatDoorM15
import Derived.Test.YthidbmeaccpjdaaGreatDoorM31
import Derived.Test.YthidbmeaccpjdaaGreatDoorM22
namespace Go.Proofs.YthidbmeaccpjdaaGreatDoor
open Go.RowKit
set_option linter.unusedVariables false
set_option maxHeartbeats 4000000
structure QpRel (w : World) (l r : List UInt8) (wr : World) : Prop where
 ex : ∃ acc, Bld wr w.heap.size w.heap.size acc ∧ acc ++ qpP r = qpP l ∧ acc.length + 6 * r.length ≤ 6 * l.length
 bel : Below w.heap.size w wr
structure QlRel (w : World) (line T : List UInt8) (bd j k : Nat) (wr : World) : Prop where
 ex : ∃ acc, Bld wr w.heap.size w.heap.size acc ∧ acc ++ qpL k (line.drop j) = T ∧ acc.length + 6 * (line.length - j) ≤ bd
 bel : Below w.heap.size w wr
 le : k ≤ 80
theorem QlRel.next {w wr w2 w3 : World} {line T acc P : List UInt8} {bd j k : Nat} {c : UInt8} (hj : j < line.length) (hP : qpPiece c (line.drop (j + 1)).isEmpty = P) (hc : line[j] = c)
  (ha : acc ++ qpL k (line.drop j) = T) (hb : acc.length + 6 * (line.length - j) ≤ bd) (hz : ¬ 76 ≤ k + P.length) (hw : Bld w3 w.heap.size w.heap.size (acc ++ P)) (hbel : Below w.heap.size w w3) : QlRel w line T bd (j + 1) (k + P.length) w3 := by
 have hl := qpPiece_len c (line.drop (j + 1)).isEmpty
 rw [hP] at hl
 rw [List.drop_eq_getElem_cons hj, hc, qpL_cons hP, if_neg hz] at ha
 refine ⟨⟨acc ++ P, hw, by rw [List.append_assoc]; exact ha, by rw [List.length_append]; omega⟩, hbel, by omega⟩
theorem QlRel.next2 {w wr w2 w3 : World} {line T acc P : List UInt8} {bd j k : Nat} {c : UInt8} (hj : j < line.length) (hP : qpPiece c (line.drop (j + 1)).isEmpty = P) (hc : line[j] = c)
  (ha : acc ++ qpL k (line.drop j) = T) (hb : acc.length + 6 * (line.length - j) ≤ bd) (hz : 76 ≤ k + P.length) (hw : Bld w3 w.heap.size w.heap.size ((acc ++ [61, 13, 10]) ++ P)) (hbel : Below w.heap.size w w3) : QlRel w line T bd (j + 1) P.length w3 := by
 have hl := qpPiece_len c (line.drop (j + 1)).isEmpty
 rw [hP] at hl
 rw [List.drop_eq_getElem_cons hj, hc, qpL_cons hP, if_pos hz] at ha
 refine ⟨⟨(acc ++ [61, 13, 10]) ++ P, hw, by rw [List.append_assoc, List.append_assoc]; exact ha, by rw [List.length_append, List.length_append]; simp; omega⟩, hbel, by omega⟩
set_option maxRecDepth 100000 in
theorem qp_any (l : List UInt8) (w : World) (hl : l.length ≤ 1000000000) (hT : Tabs w) :
  Calls Tryz.prog 61 #[.string (ba l)] w (StrB w (qpP l)) := by
 have HB0 := Lib.hid (bld_new w)
 have HL := Lib.hid hl
 have HT := Lib.hid hT
 obtain ⟨L, hL⟩ : ∃ L, l = L := ⟨_, rfl⟩
 have HREL := Lib.hid (show ∀ wr, wr = w.alloc (.cells #[.pointer none, .slice none 0 0] 64) → QpRel w l l wr from by
  rintro wr rfl
  exact ⟨⟨[], HB0.out, rfl, by simp⟩, (Below.refl _ _).alloc (Nat.le_refl _) _⟩)
 clear hl hT
 rw [hL]
 rw [hL] at HREL HL
 clear hL HB0
 go_enter Tryz.func61, Tryz.ntmps61
 go_wp2
 go_loopw [0, 4, 5, 6, 7, 8, 9, 10] (fun s a b c d e f g wr => ∃ (r : List UInt8) (y1 y2 y3 y4 y5 y6 y7 : Value), a = y1 ∧ b = y2 ∧ c = y3 ∧ d = y4 ∧ e = y5 ∧ f = y6 ∧ g = y7 ∧ s = .string (ba r) ∧ Hid (QpRel w L r wr)) (fun s _ _ _ _ _ _ _ _ => Lib.strSize s)
 case atStart => exact ⟨L, _, _, _, _, _, _, _, rfl, rfl, rfl, rfl, rfl, rfl, rfl, rfl, Lib.hid (HREL.out _ rfl)⟩
 case round =>
  obtain ⟨r, y1, y2, y3, y4, y5, y6, y7, rfl, rfl, rfl, rfl, rfl, rfl, rfl, rfl, HR⟩ := hrel
  obtain ⟨acc0, hbld, heq, hal⟩ := HR.out.ex
  have HBL := Lib.hid hbld
  have HEQ := Lib.hid heq
  have HBE := Lib.hid HR.out.bel
  have hszr := HR.out.bel.size
  have HAL := Lib.hid hal
  have hrl : r.length ≤ 1000000000 := by have := HL.out; omega
  have HTR := Lib.hid (HT.out.below HBE.out)
  have HCU := Lib.hid (crlfcut_any r wr hrl HTR.out)
  unfold CrlfPost at HCU
  obtain ⟨⟨line, rest, more⟩, hq⟩ : ∃ q, crlfV r = q := ⟨_, rfl⟩
  rw [hq] at HCU
  have HSP := Lib.hid (show (more = false → qpP r = qpL 0 line ∧ line = r) ∧ (more = true → qpP r = qpL 0 line ++ ([13, 10] ++ qpP rest) ∧ r.length = line.length + rest.length + 2) from by
   unfold crlfV at hq
   cases hc : crlfCut r with
   | none =>
    rw [hc] at hq
    injection hq with q1 q2
    injection q2 with q2 q3
    subst q1
    exact ⟨fun _ => ⟨qpP_last hc, rfl⟩, fun h => by rw [← q3] at h; cases h⟩
   | some q =>
    obtain ⟨qa, qb⟩ := q
    rw [hc] at hq
    injection hq with q1 q2
    injection q2 with q2 q3
    dsimp only at q1 q2
    subst q1 q2
    refine ⟨fun h => (by rw [← q3] at h; cases h), fun _ => ⟨qpP_more hc, ?_⟩⟩
    have := congrArg List.length (crlfCut_some hc)
    simp only [List.length_append, List.length_cons] at this
    omega)
  clear hbld heq hal HR hq
  go_wp2_with fail
  refine HCU.out.mono ?_
  rintro e w2 ⟨rfl, nn, rfl⟩
  obtain ⟨w2, hw2⟩ : ∃ W, wr.drewN nn = W := ⟨_, rfl⟩
  have HB2 := Lib.hid (show Below w.heap.size w w2 by rw [← hw2]; exact below_drewN HBE.out nn)
  have HBL2 := Lib.hid (show Bld w2 w.heap.size w.heap.size acc0 by rw [← hw2]; exact HBL.out.below (below_drewN (Below.refl _ _) nn))
  rw [hw2]
  clear hw2
  have hll : line.length ≤ 1000000000 := by
   cases more with
   | false => rw [(HSP.out.1 (by simp)).2]; exact hrl
   | true => have := (HSP.out.2 (by simp)).2; omega
  obtain ⟨T, hT⟩ : ∃ T, acc0 ++ qpL 0 line = T := ⟨_, rfl⟩
  obtain ⟨bd, hbd⟩ : ∃ b, acc0.length + 6 * line.length = b := ⟨_, rfl⟩
  have HBD := Lib.hid (show bd ≤ 6000000000 by
   have h1 := HAL.out
   have h2 := HL.out
   cases more with
   | false => have := (HSP.out.1 (by simp)).2; subst this; omega
   | true => have := (HSP.out.2 (by simp)).2; omega)
  have HQ0 := Lib.hid (show QlRel w line T bd 0 0 w2 from ⟨⟨acc0, HBL2.out, hT, by omega⟩, HB2.out, by omega⟩)
  have HTT := Lib.hid hT
  have HBDD := Lib.hid hbd
  have HEX := Lib.hid (fun i j => ba_cut line i j)
  clear hT hbd
  have HLE := Lib.hid (show line.length = line.length from rfl)
  go_wp2_with fail
  obtain ⟨m, hnline⟩ : ∃ n, line.length = n := ⟨_, rfl⟩
  have HLline := Lib.hid hnline
  obtain ⟨s, hsline⟩ : ∃ s, ba line = s := ⟨_, rfl⟩
  have HSline := Lib.hid hsline
  have HZline := Lib.hid (show s.size = m by rw [← hsline, ba_size, hnline])
  have hszline : (s.size : Int) = m := by rw [HZline.out]
  rw [hsline]
  rw [hnline] at hll
  clear hsline hnline
  rw [hszline]
  go_loopw [7, 8, 9, 10, 19] (fun d e f g i wq => ∃ (j k : Nat) (z1 z2 z3 : Value), j ≤ m ∧ e = z1 ∧ f = z2 ∧ g = z3 ∧ d = .int .i64 (k : Int) ∧ i = .int .i64 (j : Int) ∧ Hid (QlRel w line T bd j k wq)) (fun _ _ _ _ i _ => m - (intOf i).toNat)
  case atStart => exact ⟨0, 0, _, _, _, Nat.zero_le _, rfl, rfl, rfl, rfl, rfl, HQ0⟩
  case round =>
   obtain ⟨j, k, z1, z2, z3, hj, rfl, rfl, rfl, rfl, rfl, HQ⟩ := hrel
   by_cases hjl : j < m
   ·obtain ⟨acc, hbq, hTq, hlq⟩ := HQ.out.ex
    have HBQ := Lib.hid hbq
    have HTQ := Lib.hid hTq
    have HLQ := Lib.hid hlq
    have HBEL := Lib.hid HQ.out.bel
    have hkk := HQ.out.le
    have hacl : acc.length ≤ 6000000000 := by have := HBD.out; omega
    clear hbq hTq hlq HQ
    have hk2line : (j : Int) < (m : Int) := by omega
    have hk0line : (0 : Int) ≤ (j : Int) := by omega
    have hksline : j < s.size := by rw [HZline.out]; omega
    have hklline : j < line.length := by rw [HLline.out]; omega
    have hgetline : s[j] = line[j] := by
     have h := HSline.out
     subst h
     rfl
    have hj1 : (j : Int) ≤ (j : Int) + 1 := by omega
    have hj2 : (j : Int) + 1 ≤ (m : Int) := by omega
    have HEMP := Lib.hid (show (line.drop (j + 1)).isEmpty = decide (j + 1 = m) by
     rw [Bool.eq_iff_iff, List.isEmpty_iff, List.drop_eq_nil_iff, decide_eq_true_iff, HLline.out]
     omega)
    have HKL := Lib.hid hklline
    obtain ⟨c, hc⟩ : ∃ c, line[j] = c := ⟨_, rfl⟩
    have hone : (line.take (j + 1)).drop j = [c] := by
     rw [List.take_succ_eq_append_getElem hklline, List.drop_append_of_le_length (by rw [List.length_take]; omega), List.drop_of_length_le (by rw [List.length_take]; omega)]
     show [line[j]] = [c]
     rw [← hc]
    have hex1 := HEX.out j (j + 1)
    rw [hone, HSline.out] at hex1
    have HEX1 := Lib.hid hex1
    replace hgetline := hgetline.trans hc
    clear hone hex1
    have HC := Lib.hid hc
    have hext := HEX1.out
    obtain ⟨x, hx⟩ : ∃ x : Int, (c.toNat : Int) = x := ⟨_, rfl⟩
    have hgi : ((s[j]).toNat : Int) = x := by rw [hgetline]; exact hx
    have hx0 : 0 ≤ x := by omega
    have hx1 : x ≤ 255 := by have := c.toNat_lt; omega
    have HSE := Lib.hid (fun W => qseen_any c W)
    have HIX := Lib.hid (show ∀ W, Calls Tryz.prog 128 #[.string ⟨#[32, 9]⟩, .int .u8 (c.toNat : Int)] W fun e w' => e = .returned (.int .i64 (Lib.indexByte [32, 9] c)) ∧ w' = W from fun W => indexb_any c [32, 9] W)
    have HES := Lib.hid (fun W => qescape_any c W)
    unfold StrB at HES
    simp only [hx] at HSE HIX HES
    have HTB := Lib.hid (tab_index c)
    obtain ⟨P, hP⟩ : ∃ P, qpPiece c (decide (j + 1 = m)) = P := ⟨_, rfl⟩
    have HP0 := Lib.hid hP
    have HP := Lib.hid (show qpPiece c (line.drop (j + 1)).isEmpty = P by rw [HEMP.out]; exact hP)
    have hpl := qpPiece_len c (decide (j + 1 = m))
    rw [hP] at hpl
    obtain ⟨PQ, hPQ⟩ : ∃ b, plainQ c = b := ⟨_, rfl⟩
    obtain ⟨IX, hIX⟩ : ∃ b, Lib.indexByte [32, 9] c = b := ⟨_, rfl⟩
    obtain ⟨B, hB⟩ : ∃ b, (!PQ && (decide (IX < 0) || decide (j + 1 = m))) = b := ⟨_, rfl⟩
    have HPT := Lib.hid (show (B = true → P = qpEsc c) ∧ (B = false → P = [c]) from by
     rw [← hP, ← hB]
     unfold qpPiece
     rw [hPQ]
     have h1 := HTB.out
     rw [hIX] at h1
     by_cases hi : IX < 0
     ·have h2 : tabB c = false := by rw [← h1, decide_eq_false_iff_not]; omega
      rw [h2]
      cases PQ <;> simp [hi]
     ·have h2 : tabB c = true := by rw [← h1, decide_eq_true_iff]; omega
      rw [h2]
      by_cases hm : j + 1 = m <;> cases PQ <;> simp [hi, hm])
    simp only [hPQ] at HSE
    simp only [hIX] at HIX
    have HBB := Lib.hid hB
    clear hc hx hP hPQ hIX hB hklline hgetline HTB HP0
    go_upto_region 9 with (fail)
    go_cut [44] from 30 to 44 (fun p wc => p = .bool B ∧ wc = wr)
    case first =>
     cases PQ with
     | true =>
      have HV := Lib.hid (show B = false from by rw [← HBB.out]; rfl)
      go_wp2_with fail
      refine (HSE.out _).mono ?_
      rintro e v2 ⟨rfl, hv⟩
      obtain rfl : wr = v2 := hv.symm
      clear hv
      go_wp2
      go_meet
      case rel => exact ⟨by rw [HV.out], rfl⟩
     | false =>
      go_wp2_with fail
      refine (HSE.out _).mono ?_
      rintro e v2 ⟨rfl, hv⟩
      obtain rfl : wr = v2 := hv.symm
      clear hv
      go_wp2_with fail
      refine (HIX.out _).mono ?_
      rintro e v2 ⟨rfl, hv⟩
      obtain rfl : wr = v2 := hv.symm
      clear hv
      by_cases hi : IX < 0
      ·have hd0 : decide (IX < 0) = true := decide_eq_true hi
       have HV := Lib.hid (show B = true from by rw [← HBB.out, hd0]; rfl)
       go_wp2
       go_meet
       case rel => exact ⟨by rw [HV.out], rfl⟩
      ·have hd0 : decide (IX < 0) = false := decide_eq_false hi
       by_cases hjm : j + 1 = m
       ·have hji : ((j : Int) + 1 == (m : Int)) = true := by simp; omega
        have HV := Lib.hid (show B = true from by rw [← HBB.out, hd0, decide_eq_true hjm]; rfl)
        clear hjm
        go_wp2
        go_meet
        case rel => exact ⟨by rw [HV.out], rfl⟩
       ·have hji : ((j : Int) + 1 == (m : Int)) = false := by simp; omega
        have HV := Lib.hid (show B = false from by rw [← HBB.out, hd0, decide_eq_false hjm]; rfl)
        clear hjm
        go_wp2
        go_meet
        case rel => exact ⟨by rw [HV.out], rfl⟩
    case rest =>
     obtain ⟨rfl, hwc⟩ := hcut
     obtain rfl : wr = wc := hwc.symm
     clear hwc HSE HIX HBB
     go_upto_if 44 with (fail)
     go_cut [10] from 45 to 46 (fun p wc => p = .string (ba P) ∧ Hid (Below wr.heap.size wr wc))
     case first =>
      cases B with
      | true =>
       have HV := Lib.hid (HPT.out.1 rfl)
       go_wp2_with fail
       refine (HES.out _).mono ?_
       rintro e v2 ⟨rfl, hb2⟩
       have HBV := Lib.hid hb2
       clear hb2
       go_wp2
       go_meet
       case rel => exact ⟨by rw [HV.out], HBV⟩
      | false =>
       have HV := Lib.hid (HPT.out.2 rfl)
       go_wp2
       go_meet
       case rel => exact ⟨by rw [HV.out], Lib.hid (Below.refl _ _)⟩
     case rest =>
      obtain ⟨rfl, HBV⟩ := hcut
      have hps : ((ba P).size : Int) = (P.length : Int) := by rw [ba_size]
      have HB3 := Lib.hid (HBEL.out.trans (HBV.out.mono HBEL.out.size))
      have HBL3 := Lib.hid (HBQ.out.below HBV.out)
      have hpl1 : (P.length : Int) ≤ 3 := by omega
      have hki : (k : Int) ≤ 80 := by omega
      clear hext
      by_cases hz : 76 ≤ k + P.length
      ·have hzi : (76 : Int) ≤ (k : Int) + (P.length : Int) := by omega
       have HW1 := Lib.hid (show Calls Tryz.prog 54 #[.pointer (some ⟨w.heap.size, 0, none⟩), .string ⟨#[61, 13, 10]⟩] wc (WrotePost wc w.heap.size w.heap.size (acc ++ [61, 13, 10]) (.tuple #[.int .i64 3, .nilIface])) from write_string _ _ acc [61, 13, 10] wc HBL3.out (by simp; omega) HB3.out.size)
       go_wp2_with fail
       refine HW1.out.mono ?_
       rintro e v3 ⟨rfl, hW⟩
       have HB4 := Lib.hid (HB3.out.trans hW.bel)
       have HW2 := Lib.hid (write_string _ _ (acc ++ [61, 13, 10]) P v3 hW.bld (by simp; omega) HB4.out.size)
       clear hW
       go_wp2_with fail
       refine HW2.out.mono ?_
       rintro e v4 ⟨rfl, hW⟩
       have HN := Lib.hid (QlRel.next2 (wr := wr) (w2 := wr) HKL.out HP.out HC.out HTQ.out HLQ.out hz hW.bld (HB4.out.trans hW.bel))
       clear hW
       go_wp2
       go_roundw
       case rel => exact ⟨j + 1, P.length, _, _, _, by omega, rfl, rfl, rfl, by go_num, by go_num, HN⟩
       case measure => simp [intOf] <;> omega
      ·have hzi : ¬ (76 : Int) ≤ (k : Int) + (P.length : Int) := by omega
       have HW2 := Lib.hid (write_string _ _ acc P wc HBL3.out (by omega) HB3.out.size)
       go_wp2_with fail
       refine HW2.out.mono ?_
       rintro e v4 ⟨rfl, hW⟩
       have HN := Lib.hid (QlRel.next (wr := wr) (w2 := wr) HKL.out HP.out HC.out HTQ.out HLQ.out hz hW.bld (HB3.out.trans hW.bel))
       clear hW
       go_wp2
       go_roundw
       case rel => exact ⟨j + 1, k + P.length, _, _, _, by omega, rfl, rfl, rfl, by go_num, by go_num, HN⟩
       case measure => simp [intOf] <;> omega
   ·obtain rfl : m = j := by omega
    obtain ⟨acc, hbq, hTq, hlq⟩ := HQ.out.ex
    have HBQ := Lib.hid hbq
    have HBEL := Lib.hid HQ.out.bel
    rw [List.drop_of_length_le (by rw [HLline.out]; exact Nat.le_refl _)] at hTq
    have HTQ := Lib.hid (show acc = acc0 ++ qpL 0 line by rw [HTT.out]; simpa [qpL] using hTq)
    have hacl : acc.length ≤ 6000000000 := by have := HBD.out; omega
    have HAC := Lib.hid (show acc.length ≤ acc0.length + 6 * line.length by rw [HBDD.out]; omega)
    clear hbq hTq hlq HQ
    cases more with
    | false =>
     have HF := Lib.hid (show acc = qpP L by rw [HTQ.out, ← HEQ.out, (HSP.out.1 (by simp)).1])
     go_wp2_with fail
     refine (bld_string _ _ _ wr HBQ.out HBEL.out.size).mono ?_
     rintro e v2 ⟨rfl, hW⟩
     have HW := Lib.hid hW
     clear hW
     go_wp2
     go_ret
     exact str_fin (by rw [HF.out]) (HBEL.out.trans HW.out.bel)
    | true =>
     have HW1 := Lib.hid (show Calls Tryz.prog 54 #[.pointer (some ⟨w.heap.size, 0, none⟩), .string ⟨#[13, 10]⟩] wr (WrotePost wr w.heap.size w.heap.size (acc ++ [13, 10]) (.tuple #[.int .i64 2, .nilIface])) from write_string _ _ acc [13, 10] wr HBQ.out (by simp; omega) HBEL.out.size)
     go_wp2_with fail
     refine HW1.out.mono ?_
     rintro e v3 ⟨rfl, hW⟩
     have HN := Lib.hid (show QpRel w L rest v3 from ⟨⟨acc ++ [13, 10], hW.bld, by rw [← HEQ.out, (HSP.out.2 (by simp)).1, HTQ.out]; simp, by have h1 := (HSP.out.2 (by simp)).2; have h2 := HAL.out; have h3 := HAC.out; rw [List.length_append]; simp; omega⟩, HBEL.out.trans hW.bel⟩)
     have HLS := Lib.hid (show rest.length < r.length by have h1 := (HSP.out.2 (by simp)).2; omega)
     clear hW
     go_wp2
     go_roundw
     case rel => exact ⟨rest, _, _, _, _, _, _, _, rfl, rfl, rfl, rfl, rfl, rfl, rfl, rfl, HN⟩
     case measure => rw [Lib.strSize_string, Lib.strSize_string, ba_size, ba_size]; exact HLS.out
def moreL (l : List UInt8) : Nat := moreP l.length l
theorem moreL_yes {l : List UInt8} (h : goesP l = true) : moreL l = endP l + moreL (l.drop (endP l)) := by
 unfold moreL
 cases l with
 | nil => cases h
 | cons c r =>
  have h1 := endP_pos (goes_ne h)
  rw [List.length_cons]
  conv => lhs; unfold moreP
  rw [if_pos h, moreP_fuel r.length _ _ (by rw [List.length_drop, List.length_cons]; omega) (Nat.le_refl _)]
theorem moreL_no {l : List UInt8} (h : goesP l = false) : moreL l = 0 := by
 unfold moreL
 cases l with
 | nil => rfl
 | cons c r =>
  rw [List.length_cons]
  unfold moreP
  rw [if_neg (by rw [h]; decide)]
theorem moreL_le (l : List UInt8) : moreL l ≤ l.length := moreP_le _ l
theorem headP_nil : headP [] = ([], 0) := rfl
theorem headP_end {l : List UInt8} (h : l ≠ []) (h2 : nudeP (l.take (endP l)) = []) : headP l = ([], endP l) := by
 unfold headP
 cases l with
 | nil => exact absurd rfl h
 | cons c r =>
  rw [List.length_cons]
  unfold headF
  rw [if_neg h, if_pos h2]
theorem headP_go {l : List UInt8} (h : l ≠ []) (h2 : nudeP (l.take (endP l)) ≠ []) {m : Nat} (hm : endP l + moreL (l.drop (endP l)) = m) : headP l = (fldP (l.take m) :: (headP (l.drop m)).1, m + (headP (l.drop m)).2) := by
 subst hm
 have h3 := endP_pos h
 have h4 := endP_le l
 have h5 : headP (l.drop (endP l + moreL (l.drop (endP l)))) = headF (l.length - 1) (l.drop (endP l + moreL (l.drop (endP l)))) := by
  unfold headP
  exact headF_fuel _ _ _ (Nat.le_refl _) (by rw [List.length_drop]; omega)
 rw [h5]
 unfold headP
 cases l with
 | nil => exact absurd rfl h
 | cons c r =>
  have h6 : moreL ((c :: r).drop (endP (c :: r))) = moreP (c :: r).length ((c :: r).drop (endP (c :: r))) := moreP_fuel _ _ _ (Nat.le_refl _) (by rw [List.length_drop]; omega)
  rw [h6]
  conv => lhs; rw [List.length_cons]
  conv => lhs; unfold headF
  rw [if_neg h, if_neg h2]
  rfl
def HeadPost (w : World) (q : List Fld × Nat) (e : Ending) (w' : World) : Prop := ∃ v, e = .returned (.tuple #[v, .int .i64 (q.2 : Nat)]) ∧ OwnFlds w' w.heap.size v q.1 ∧ Below w.heap.size w w'
theorem head_fin {w w' : World} {q : List Fld × Nat} {fs : List Fld} {k : Nat} {v : Value} {i : Int} (h : q = (fs, k)) (hi : i = (k : Int)) (ho : OwnFlds w' w.heap.size v fs) (hb : Below w.heap.size w w') : HeadPost w q (.returned (.tuple #[v, .int .i64 i])) w' := by
 subst h
 subst hi
 exact ⟨v, rfl, ho, hb⟩
structure HdRel (w : World) (l : List UInt8) (k : Nat) (fs : List Fld) (v : Value) (wr : World) : Prop where
 eq : headP l = (fs ++ (headP (l.drop k)).1, k + (headP (l.drop k)).2)
 own : OwnFlds wr w.heap.size v fs
 bel : Below w.heap.size w wr
 len : fs.length ≤ k
theorem cut_mid (l : List UInt8) (k m : Nat) : (ba l).extract k (k + m) = ba ((l.drop k).take m) := by rw [ba_cut, List.take_drop]
set_option maxRecDepth 100000 in
theorem hparse_any (l : List UInt8) (w : World) (hl : l.length ≤ 500000000) (hT : Tabs w) :
  Calls Tryz.prog 74 #[.string (ba l)] w (HeadPost w (headP l)) := by
 have HT := Lib.hid hT
 have HCM := Lib.hid (cut_mid l)
 have HCD := Lib.hid (ba_drop l)
 have HENV := Lib.hid (fun k W => hend_any (l.drop k) W (by rw [List.length_drop]; omega))
 have HNUD := Lib.hid (fun k m W => hbare_any ((l.drop k).take m) W (by rw [List.length_take, List.length_drop]; omega))
 have HGOE := Lib.hid (fun k W => hgoes_any (l.drop k) W)
 have HFLD := Lib.hid (fun k m W hW => hfield_any ((l.drop k).take m) W (by rw [List.length_take, List.length_drop]; omega) hW)
 obtain ⟨n, hn⟩ : ∃ n, l.length = n := ⟨_, rfl⟩
 have HL := Lib.hid hn
 obtain ⟨s, hs⟩ : ∃ s, ba l = s := ⟨_, rfl⟩
 have HS := Lib.hid hs
 have HZ := Lib.hid (show s.size = n by rw [← hs, ba_size, hn])
 have hsz : (s.size : Int) = n := by rw [HZ.out]
 rw [hs]
 rw [hn] at hl
 clear hs hn
 simp only [HS.out] at HCM HCD
 clear hT
 go_enter Tryz.func74, Tryz.ntmps74
 go_wp2
 go_loopw [4, 5, 6] (fun v i x wr => ∃ (k : Nat) (fs : List Fld) (y : Value), x = y ∧ k ≤ n ∧ i = .int .i64 (k : Int) ∧ Hid (HdRel w l k fs v wr)) (fun _ i _ _ => n - (intOf i).toNat)
 case atStart => exact ⟨0, [], _, rfl, Nat.zero_le _, rfl, Lib.hid ⟨by rw [List.drop_zero]; simp, OwnFlds.nil_ _ _, Below.refl _ _, Nat.le_refl _⟩⟩
 case round =>
  obtain ⟨k, fs, y, rfl, hk, rfl, HR⟩ := hrel
  have hszr := HR.out.bel.size
  by_cases hlt : k < n
  ·have hk2 : (k : Int) < (n : Int) := by omega
   have hk0 : (0 : Int) ≤ (k : Int) := by omega
   have hne : l.drop k ≠ [] := by
    intro h
    have := congrArg List.length h
    rw [List.length_drop, HL.out] at this
    simp at this
    omega
   have hdl : (l.drop k).length = n - k := by rw [List.length_drop, HL.out]
   have he1 := endP_pos hne
   have he2 := endP_le (l.drop k)
   have HHE := Lib.hid (headP_end hne)
   have HHG := Lib.hid (fun h m (hm : endP (l.drop k) + moreL ((l.drop k).drop (endP (l.drop k))) = m) => headP_go hne h hm)
   have HML := Lib.hid (moreL_le ((l.drop k).drop (endP (l.drop k))))
   have HEN := Lib.hid (HENV.out k)
   have hx1 := HCD.out k
   obtain ⟨E, hE⟩ : ∃ E, endP (l.drop k) = E := ⟨_, rfl⟩
   have HNU := Lib.hid (HNUD.out k E)
   simp only [hE] at HEN
   rw [hE] at HHE HML he1 he2
   simp only [hE] at HHG
   have hx2 := HCM.out k E
   have HX1 := Lib.hid hx1
   have HX2 := Lib.hid hx2
   have hkE : k + E ≤ n := by omega
   have hki : (k : Int) + (E : Int) ≤ (n : Int) := by omega
   have hE0 : (0 : Int) ≤ (E : Int) := by omega
   have hEi : (E : Int) ≤ 1000000000 := by omega
   have hki2 : (k : Int) ≤ 1000000000 := by omega
   have hke3 : (k : Int) ≤ (k : Int) + (E : Int) := by omega
   have hke4 : ((k : Int) + (E : Int)).toNat = k + E := by omega
   clear hE hx1 hx2 hne
   by_cases hnn : nudeP ((l.drop k).take E) = []
   ·have HF := Lib.hid (show headP l = (fs, k + E) by rw [HR.out.eq, HHE.out hnn, List.append_nil])
    have g1 : (ba (nudeP ((l.drop k).take E))).toList.isEmpty = true := by rw [ba_toList, hnn]; rfl
    have g2 : ((ba (nudeP ((l.drop k).take E))).toList == []) = true := by rw [ba_toList, hnn]; rfl
    clear hnn
    go_wp2_with fail
    rw [HX1.out]
    refine (HEN.out _).mono ?_
    rintro e w2 ⟨rfl, hw⟩
    have hw2 := hw.symm
    subst hw2
    clear hw
    go_wp2_with fail
    rw [HX2.out]
    refine (HNU.out _).mono ?_
    rintro e w2 ⟨rfl, hw⟩
    have hw2 := hw.symm
    subst hw2
    clear hw
    go_wp2
    go_ret2
    exact head_fin HF.out (by omega) HR.out.own HR.out.bel
   ·have g1 : (ba (nudeP ((l.drop k).take E))).toList.isEmpty = false := by rw [ba_toList]; simpa using hnn
    have g2 : ((ba (nudeP ((l.drop k).take E))).toList == []) = false := by rw [ba_toList]; simpa using hnn
    have HGG := Lib.hid (HHG.out hnn)
    clear hnn HHE HHG
    obtain ⟨M, hM⟩ : ∃ M, E + moreL ((l.drop k).drop E) = M := ⟨_, rfl⟩
    have HHM := Lib.hid (HGG.out M hM)
    have hMn : k + M ≤ n := by have := HML.out; rw [List.length_drop, hdl] at this; omega
    have hMM := Lib.hid hM
    clear hM HGG hdl
    go_wp2_with fail
    rw [HX1.out]
    refine (HEN.out _).mono ?_
    rintro e w2 ⟨rfl, hw⟩
    have hw2 := hw.symm
    subst hw2
    clear hw
    go_wp2_with fail
    rw [HX2.out]
    refine (HNU.out _).mono ?_
    rintro e w2 ⟨rfl, hw⟩
    have hw2 := hw.symm
    subst hw2
    clear hw
    go_wp2
    obtain ⟨w9, rfl⟩ : ∃ w9, w9 = wr := ⟨_, rfl⟩
    go_loop [6] (fun x => ∃ (N : Nat), E ≤ N ∧ N ≤ M ∧ x = .int .i64 (N : Int) ∧ Hid (N + moreL ((l.drop k).drop N) = M)) (fun x => M - (intOf x).toNat)
    case atStart => exact ⟨E, Nat.le_refl _, by have := hMM.out; omega, rfl, hMM⟩
    case round =>
     obtain ⟨N, hEN, hNM, rfl, HN⟩ := hrel
     have hkN : (k : Int) + (N : Int) ≤ (n : Int) := by omega
     have hN0 : (0 : Int) ≤ (N : Int) := by omega
     have hNi : (N : Int) ≤ 1000000000 := by omega
     have hkN0 : (0 : Int) ≤ (k : Int) + (N : Int) := by omega
     have hkNt : ((k : Int) + (N : Int)).toNat = k + N := by omega
     have hxN := HCD.out (k + N)
     have hdd : (l.drop k).drop N = l.drop (k + N) := List.drop_drop
     have HXN := Lib.hid hxN
     have HNN := Lib.hid (show N + moreL (l.drop (k + N)) = M by rw [← hdd]; exact HN.out)
     have HGO := Lib.hid (HGOE.out (k + N))
     clear hxN hdd HN
     cases hg : goesP (l.drop (k + N)) with
     | true =>
      have HNX := Lib.hid (moreL_yes hg)
      have hlen2 := endP_le (l.drop (k + N))
      have hpos2 := endP_pos (goes_ne hg)
      rw [List.length_drop, HL.out] at hlen2
      have HE2 := Lib.hid (HENV.out (k + N))
      rw [List.drop_drop] at HNX
      simp only [hg] at HGO
      obtain ⟨e2, he2'⟩ : ∃ e, endP (l.drop (k + N)) = e := ⟨_, rfl⟩
      rw [he2'] at hlen2 hpos2 HNX
      simp only [he2'] at HE2
      have he0 : (0 : Int) ≤ (e2 : Int) := by omega
      have hei : (e2 : Int) ≤ 1000000000 := by omega
      have HN2 := Lib.hid (show (N + e2) + moreL ((l.drop k).drop (N + e2)) = M by
       have h1 := HNN.out
       have h2 := HNX.out
       rw [List.drop_drop, show k + (N + e2) = k + N + e2 by omega]
       omega)
      have hle9 : N + e2 ≤ M := by have := HN2.out; omega
      clear hg he2' HNX hlen2
      go_wp2_with fail
      rw [HXN.out]
      refine (HGO.out _).mono ?_
      rintro e w2 ⟨rfl, hw⟩
      have hw2 := hw.symm
      subst hw2
      clear hw
      go_wp2_with fail
      rw [HXN.out]
      refine (HE2.out _).mono ?_
      rintro e w2 ⟨rfl, hw⟩
      have hw2 := hw.symm
      subst hw2
      clear hw
      go_wp2
      go_round
      case rel => exact ⟨N + e2, by omega, hle9, by go_num, HN2⟩
      case measure => simp [intOf] <;> omega
     | false =>
      have HNX := Lib.hid (moreL_no hg)
      simp only [hg] at HGO
      obtain rfl : N = M := by have h1 := HNN.out; have h2 := HNX.out; omega
      clear hg HNX
      have HFI := Lib.hid (fun W hW => HFLD.out k N W hW)
      have hxm := HCM.out k N
      have HXM := Lib.hid hxm
      have HQ := Lib.hid (show headP l = ((fs ++ [fldP ((l.drop k).take N)]) ++ (headP (l.drop (k + N))).1, (k + N) + (headP (l.drop (k + N))).2) by
       rw [HR.out.eq, HHM.out, List.drop_drop]
       simp [Nat.add_assoc])
      unfold FldPost fldV at HFI
      obtain ⟨⟨f1, f2, f3, f4⟩, hf⟩ : ∃ f, fldP ((l.drop k).take N) = f := ⟨_, rfl⟩
      simp only [hf] at HFI
      rw [hf] at HQ
      have HOWN := Lib.hid HR.out.own
      have HBEL := Lib.hid HR.out.bel
      have HFL := Lib.hid (show fs.length ≤ 1000000000 by have := HR.out.len; omega)
      have HFK := Lib.hid HR.out.len
      have hkk : (k : Int) ≤ (k : Int) + (N : Int) := by omega
      clear hf hxm HR
      go_wp2_with fail
      rw [HXN.out]
      refine (HGO.out _).mono ?_
      rintro e w2 ⟨rfl, hw⟩
      have hw2 := hw.symm
      subst hw2
      clear hw
      go_wp2_with fail
      rw [HXM.out]
      refine (HFI.out _ (HT.out.below HBEL.out)).mono ?_
      rintro e w2 ⟨rfl, hb2⟩
      have HO2 := Lib.hid (HOWN.out.below hb2)
      have HB2 := Lib.hid (HBEL.out.trans (hb2.mono hszr))
      have hs2 := HB2.out.size
      have HGR := Lib.hid (show ∀ q, Value.ownBlock _ = some q → w.heap.size ≤ q from fun q e => (HOWN.out.row.lt q e).1)
      clear hb2
      go_wp2_with (at_builtin; go_must (refine wpList_pushFld (W := w2) HO2.out hs2 trivial HFL.out rfl (.tmp 41) (.tmp 49) 1 rfl rfl (by show Value.slice (some ⟨w2.heap.size, 0, none⟩) 1 1 = _; simp) ?_); intro v6 w6 h1 h2; (have HN6 := Lib.hid (show HdRel w l (k + N) (fs ++ [⟨f1, f2, f3, f4⟩]) v6 w6 from ⟨HQ.out, h1, HB2.out.grown h2 hs2 fun q e => HGR.out q e, by rw [List.length_append]; have := HFK.out; simp; omega⟩); clear h1 h2))
      go_roundw
      case rel => exact ⟨k + N, _, _, rfl, by omega, by go_num, HN6⟩
      case measure => simp [intOf] <;> omega
  ·obtain rfl : k = n := by omega
   have HF := Lib.hid (show headP l = (fs, k) by
    rw [HR.out.eq, List.drop_of_length_le (by rw [HL.out]; exact Nat.le_refl _), headP_nil, List.append_nil]
    rfl)
   go_wp2
   go_ret2
   exact head_fin HF.out rfl HR.out.own HR.out.bel
theorem run_copy_row_cut {P : Program} (w : World) (dT sT ty elem : TypeId) (g o dLen dCap k : Nat) (s : ByteArray) (cur : Array Value) (t : TypeId)
  (hu : P.underlying dT = some (.slice elem)) (hs : (P.info? elem).map (·.size) = some 1) (hg : w.heap[g]? = some (.cells cur t (0, 0))) (hk : Nat.min s.size dLen = k) (hfit : o + k ≤ cur.size) :
  (Builtin.copy_ #[dT, sT] ty #[.slice (some ⟨g, o, none⟩) dLen dCap, .string s]).run P w =
   .ok (goInt k) (w.setRow g (cur.toList.take o ++ (Lib.byteCells s.data.toList).take k ++ cur.toList.drop (o + k)).toArray) := by
 have hks : k ≤ s.size := by rw [← hk]; exact Nat.min_le_left _ _
 have hlen : ((Lib.byteCells s.data.toList).take k).length = k := by rw [List.length_take, Lib.byteCells_length, ← Lib.size_eq]; omega
 have hst := run_storeCells_at P g o t ((Lib.byteCells s.data.toList).take k) 0 cur w hg (by rw [hlen]; simpa using hfit) (fun v hv => Lib.byteCells_one _ v (List.mem_of_mem_take hv))
 have htk : List.take k (List.map (fun b : UInt8 => Value.int IntKind.u8 (b.toNat : Int)) s.data.toList) = (Lib.byteCells s.data.toList).take k := rfl
 rw [hlen] at hst
 simp only [Nat.add_zero] at hst
 cases hq : P.info? elem with
 | none => simp [hq] at hs
 | some i =>
  simp [Builtin.copy_, run_underlying hu, Builtin.lenOf, Builtin.firstCells, sizeOf, typeInfo, hq, hk]
  rw [htk, hst]
  simp [Result.andThen]
theorem b64Digits_at (n : Nat) (h : n < 64) (h2 : n < (⟨#[65, 66, 67, 68, 69, 70, 71, 72, 73, 74, 75, 76, 77, 78, 79, 80, 81, 82, 83, 84, 85, 86, 87, 88, 89, 90, 97, 98, 99, 100, 101, 102, 103, 104, 105, 106, 107, 108, 109, 110, 111, 112, 113, 114, 115, 116, 117, 118, 119, 120, 121, 122, 48, 49, 50, 51, 52, 53, 54, 55, 56, 57, 43, 47]⟩ : ByteArray).size) : ((⟨#[65, 66, 67, 68, 69, 70, 71, 72, 73, 74, 75, 76, 77, 78, 79, 80, 81, 82, 83, 84, 85, 86, 87, 88, 89, 90, 97, 98, 99, 100, 101, 102, 103, 104, 105, 106, 107, 108, 109, 110, 111, 112, 113, 114, 115, 116, 117, 118, 119, 120, 121, 122, 48, 49, 50, 51, 52, 53, 54, 55, 56, 57, 43, 47]⟩ : ByteArray)[n]'h2) = b64C n := by
 revert h2
 revert n
 decide +kernel
def quadK (v k : Nat) : List UInt8 := (quadP v).take (k + 1) ++ List.replicate (3 - k) 61
theorem b64_step {r : List UInt8} (h : r ≠ []) : b64Q r = quadK (triV (r.getD 0 0) (r.getD 1 0) (r.getD 2 0)) (min 3 r.length) ++ b64Q (r.drop 3) := by
 match r, h with
 | [a], _ => rfl
 | [a, b], _ => rfl
 | a :: b :: c :: t, _ =>
  have e : min 3 (a :: b :: c :: t).length = 3 := by simp
  rw [e]
  rfl
theorem quadK_len (v k : Nat) (h : k ≤ 3) : (quadK v k).length = 4 := by
 unfold quadK quadP
 rw [List.length_append, List.length_take, List.length_replicate]
 simp
 omega
theorem quadK_at (v k j : Nat) (h1 : 1 ≤ k) (h3 : k ≤ 3) (hj : j < 4) : (quadK v k).drop j = (if k < j then 61 else b64C (v / 64 ^ (3 - j) % 64)) :: (quadK v k).drop (j + 1) := by
 match k, h1, h3, j, hj with
 | 1, _, _, 0, _ => rfl
 | 1, _, _, 1, _ => rfl
 | 1, _, _, 2, _ => rfl
 | 1, _, _, 3, _ => rfl
 | 2, _, _, 0, _ => rfl
 | 2, _, _, 1, _ => rfl
 | 2, _, _, 2, _ => rfl
 | 2, _, _, 3, _ => rfl
 | 3, _, _, 0, _ => rfl
 | 3, _, _, 1, _ => rfl
 | 3, _, _, 2, _ => rfl
 | 3, _, _, 3, _ => simp [quadK, quadP]
theorem copy_three {r : List UInt8} (h : r ≠ []) : (((#[Value.int .u8 0, Value.int .u8 0, Value.int .u8 0] : Array Value).toList.take 0 ++ (Lib.byteCells (ba r).data.toList).take (min 3 r.length) ++ (#[Value.int .u8 0, Value.int .u8 0, Value.int .u8 0] : Array Value).toList.drop (0 + min 3 r.length)).toArray) = #[.int .u8 ((r.getD 0 0).toNat : Int), .int .u8 ((r.getD 1 0).toNat : Int), .int .u8 ((r.getD 2 0).toNat : Int)] := by
 rw [ba_list]
 match r, h with
 | [a], _ => rfl
 | [a, b], _ => rfl
 | a :: b :: c :: t, _ =>
  have e : min 3 (a :: b :: c :: t).length = 3 := by simp
  rw [e]
  rfl
theorem or16 {a b : Int} (ha : 0 ≤ a) (ha2 : a < 256) (hb : 0 ≤ b) (hb2 : b < 256) : bits BinOp.or IntKind.i64 (a * 65536) (b * 256) = a * 65536 + b * 256 :=
 bits_join .i64 30 (by decide) (fun n h0 h1 => by simp [IntKind.wrap, IntKind.bits, IntKind.signed]; omega) 16 (a * 65536) (b * 256) (by omega) (by omega) (by omega) (by omega) (by omega) (by omega)
theorem or8 {a b : Int} (ha : 0 ≤ a) (ha2 : a < 65536) (hb : 0 ≤ b) (hb2 : b < 256) : bits BinOp.or IntKind.i64 (a * 256) b = a * 256 + b :=
 bits_join .i64 30 (by decide) (fun n h0 h1 => by simp [IntKind.wrap, IntKind.bits, IntKind.signed]; omega) 8 (a * 256) b (by omega) (by omega) (by omega) (by omega) (by omega) (by omega)
end Go.Proofs.YthidbmeaccpjdaaGreatDoor
