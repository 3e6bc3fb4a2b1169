/- CtypeFolds: the walk. -/
import Derived.Test.YtnpgnohlcphfnaaGreatDoorFoldsP
import Derived.Test.YtnpgnohlcphfnaaGreatDoorHdI
import Derived.Test.YtnpgnohlcphfnaaGreatDoorHdE
import Derived.Test.YtnpgnohlcphfnaaGreatDoorHdC
import Derived.Test.YtnpgnohlcphfnaaGreatDoorLright
import Derived.Test.YtnpgnohlcphfnaaGreatDoorRCtI
import Derived.Test.YtnpgnohlcphfnaaGreatDoorM16
import Derived.Test.YtnpgnohlcphfnaaGreatDoorM17
namespace Go.Proofs.YtnpgnohlcphfnaaGreatDoor
open Go.RowKit
set_option linter.unusedVariables false

set_option maxRecDepth 100000 in
set_option maxHeartbeats 4000000 in
theorem folds_any (kind sub : List UInt8) (ps : List (List UInt8 × List UInt8)) (A : Option Addr) (n c : Nat) (w : World) (hP : Pars w w.heap.size A n ps) (hk : kind.length ≤ 140737488351232) (hs : sub.length ≤ 140737488351232) (hps : ∀ p ∈ ps, p.1.length ≤ 140737488351232 ∧ p.2.length ≤ 140737488351232) (hn : n ≤ 9223372036854775807) (hbulk : kind.length + sub.length + sizeP ps ≤ 1048576) (hT : Tabs w) :
    Calls Tryz.prog 7 #[.agg #[.string (ba kind), .string (ba sub), .slice A n c]] w (LTrue w) := by
  have hB0 := (Below.refl w.heap.size w).alloc (Nat.le_refl _) (.cells #[.string (ba kind), .string (ba sub), .slice A n c] 26)
  have HB0 := Lib.hid hB0
  have HT0 := Lib.hid (hT.below hB0)
  have HSM := Lib.hid (lsmall_any _ (hT.below hB0))
  have HP := Lib.hid hP
  have HN := Lib.hid hP.len
  have HBK := Lib.hid (fun (h : RightT kind sub ps) => h.back hbulk)
  have HRI := Lib.hid (fun W (hp : Pars W W.heap.size A n ps) (ht : Tabs W) => right_any kind sub ps A n c W hp (by omega) (by omega) (fun p hp => by have := sizeP_mem hp; omega) ht)
  have HVL := Lib.hid (show ∀ p ∈ ps, p.2.length ≤ 1048576 from fun p hp => by have := sizeP_mem hp; omega)
  unfold LTrue at HSM
  unfold RightPost at HRI
  clear hP hps hk hs hB0 hT hbulk
  go_enter Tryz.func7, Tryz.ntmps7
  go_wp2_with fail
  refine HSM.out.mono ?_
  rintro e w1 ⟨rfl, hb1⟩
  have t0 : w1.cell? ⟨w.heap.size, 0, none⟩ = some (.string (ba kind)) := (hb1.cell (p := ⟨w.heap.size, 0, none⟩) (by simp)).trans (by go_simp)
  have t1 : w1.cell? ⟨w.heap.size, 1, none⟩ = some (.string (ba sub)) := (hb1.cell (p := ⟨w.heap.size, 1, none⟩) (by simp)).trans (by go_simp)
  have t2 : w1.cell? ⟨w.heap.size, 2, none⟩ = some (.slice A n c) := (hb1.cell (p := ⟨w.heap.size, 2, none⟩) (by simp)).trans (by go_simp)
  have HB1 := Lib.hid (HB0.out.trans (hb1.mono HB0.out.size))
  have hz1 : w.heap.size < w1.heap.size := by have := hb1.size; simp at this; omega
  have HP1 := Lib.hid ((HP.out.below HB1.out).more HB1.out.size)
  have HT1 := Lib.hid (HT0.out.below hb1)
  clear hb1 HSM HT0
  go_wp2_with fail
  refine (HRI.out w1 HP1.out HT1.out).mono ?_
  rintro e w2 ⟨b, rfl, hb2, hr⟩
  cases b
  · have HB2 := Lib.hid (HB1.out.trans (hb2.mono HB1.out.size))
    clear hb2 hr
    go_wp2
    go_ret
    exact ⟨rfl, HB2.out⟩
  · have HK := Lib.hid (HBK.out (hr rfl))
    have HRT := Lib.hid (hr rfl)
    have hn20 : n ≤ 20 := by have := HRT.out.len; rw [HN.out] at this; exact this
    have HB2 := Lib.hid (HB1.out.trans (hb2.mono HB1.out.size))
    have ha0 : w2.cell? ⟨w.heap.size, 0, none⟩ = some (.string (ba kind)) := (hb2.cell (p := ⟨w.heap.size, 0, none⟩) hz1).trans t0
    have ha1 : w2.cell? ⟨w.heap.size, 1, none⟩ = some (.string (ba sub)) := (hb2.cell (p := ⟨w.heap.size, 1, none⟩) hz1).trans t1
    have ha2 : w2.cell? ⟨w.heap.size, 2, none⟩ = some (.slice A n c) := (hb2.cell (p := ⟨w.heap.size, 2, none⟩) hz1).trans t2
    have hz2 : w.heap.size < w2.heap.size := Nat.lt_of_lt_of_le hz1 hb2.size
    have HP2 := Lib.hid ((HP.out.below HB2.out).more HB2.out.size)
    have HT2 := Lib.hid (HT1.out.below hb2)
    have HWR := Lib.hid (write_any kind sub ps A n c w2 HP2.out HK.out.val (by omega) (Nat.le_trans HK.out.one (by decide)))
    unfold StrB at HWR
    clear hb2 hr t0 t1 t2 hz1 HP1 HT1 HB1 HRI HBK
    go_wp2
    go_loop [4, 5, 6] (fun i a b => ∃ (k : Nat) (y z : Value), a = y ∧ b = z ∧ k ≤ n ∧ i = .int .i64 (k : Int)) (fun i _ _ => n - (intOf i).toNat)
    case atStart => exact ⟨0, _, _, rfl, rfl, Nat.zero_le _, rfl⟩
    case round =>
      obtain ⟨k, y, z, rfl, rfl, hk, rfl⟩ := hrel
      by_cases hlt : k < n
      · have hk2 : (k : Int) < (n : Int) := by omega
        have hkl : k < ps.length := by rw [HN.out]; exact hlt
        obtain ⟨ad, rfl, hbl, c0, c1, -⟩ := HP2.out.2 k hkl
        have hvl := HVL.out _ (List.getElem_mem hkl)
        obtain ⟨v, hv⟩ : ∃ v, ps[k].2 = v := ⟨_, rfl⟩
        rw [hv] at c1 hvl
        clear hv c0 hbl hkl
        obtain ⟨m, hnv⟩ : ∃ m, v.length = m := ⟨_, rfl⟩
        have HLv := Lib.hid hnv
        obtain ⟨s, hsv⟩ : ∃ s, ba v = s := ⟨_, rfl⟩
        have HSv := Lib.hid hsv
        have HZv := Lib.hid (show s.size = m by rw [← hsv, ba_size, hnv])
        have hszv : (s.size : Int) = m := by rw [HZv.out]
        rw [hsv] at c1
        rw [hnv] at hvl
        clear hsv hnv
        go_wp2
        go_loop [6] (fun i => ∃ j : Nat, j ≤ m ∧ i = .int .i64 (j : Int)) (fun i => m - (intOf i).toNat)
        case atStart => exact ⟨0, Nat.zero_le _, rfl⟩
        case round =>
          obtain ⟨j, hj, rfl⟩ := hrel
          by_cases hjm : j < m
          · have hk2v : (j : Int) < (m : Int) := by omega
            have hk0v : (0 : Int) ≤ (j : Int) := by omega
            have hksv : j < s.size := by rw [HZv.out]; omega
            have hklv : j < v.length := by rw [HLv.out]; omega
            have hgetv : s[j] = v[j] := by
              have h := HSv.out
              subst h
              rfl
            obtain ⟨cc, hcv⟩ : ∃ c, v[j] = c := ⟨_, rfl⟩
            rw [hcv] at hgetv 
            obtain ⟨x, hxv⟩ : ∃ x : Int, (cc.toNat : Int) = x := ⟨_, rfl⟩
            have hgiv : ((s[j]).toNat : Int) = x := by rw [hgetv]; exact hxv
            have HXv := Lib.hid hxv
            have hx0v : 0 ≤ x := by omega
            have hx1v : x ≤ 255 := by have := cc.toNat_lt; omega
            clear hcv hklv hgetv hxv
            by_cases e1 : x = 32
            · have g1 : (x == 32) = true := by simpa using e1
              clear e1
              by_cases e2 : j = 0
              · have g2 : ((j : Int) == 0) = true := by simp [e2]
                clear e2
                go_wp2
                go_ret
                exact ⟨rfl, HB2.out⟩
              · have g2 : ((j : Int) == 0) = false := by simp [e2]
                obtain ⟨i, hji⟩ : ∃ i, j = i + 1 := ⟨j - 1, by omega⟩
                have hjj : (j : Int) - 1 = (i : Int) := by omega
                have hii : (i : Int) < (m : Int) := by omega
                have hi0 : (0 : Int) ≤ (i : Int) := by omega
                have his : i < s.size := by rw [HZv.out]; omega
                clear e2 hji
                by_cases e3 : j + 1 = m
                · have g3 : ((j : Int) + 1 == (m : Int)) = true := by rw [beq_iff_eq]; omega
                  clear e3
                  go_wp2
                  go_ret
                  exact ⟨rfl, HB2.out⟩
                · have g3 : ((j : Int) + 1 == (m : Int)) = false := by rw [beq_eq_false_iff_ne]; omega
                  obtain ⟨z2, hz2e⟩ : ∃ z2 : Int, ((s[i]).toNat : Int) = z2 := ⟨_, rfl⟩
                  by_cases e4 : z2 = 32
                  · have g4 : (z2 == 32) = true := by simpa using e4
                    clear e3 e4
                    go_wp2
                    go_ret
                    exact ⟨rfl, HB2.out⟩
                  · have g4 : (z2 == 32) = false := by simpa using e4
                    clear e3 e4
                    go_wp2
                    go_round
                    case rel => exact ⟨j + 1, by omega, by go_num⟩
                    case measure => simp [intOf] <;> omega
            · have g1 : (x == 32) = false := by simpa using e1
              clear e1
              go_wp2
              go_round
              case rel => exact ⟨j + 1, by omega, by go_num⟩
              case measure => simp [intOf] <;> omega
          · obtain rfl : j = m := by omega
            go_wp2
            go_round
            case rel => exact ⟨k + 1, _, _, rfl, rfl, by omega, by go_num⟩
            case measure => simp [intOf] <;> omega
      · obtain rfl : n = k := by omega
        obtain ⟨fs, fk, hft⟩ := fold_back HRT.out HK.out
        have HSA := Lib.hid (show ∀ W A4 c4, Pars W W.heap.size A n ps → Pars W W.heap.size A4 n ps → Calls Tryz.prog 16 #[.agg #[.string (ba kind), .string (ba sub), .slice A n c], .agg #[.string (ba kind), .string (ba sub), .slice A4 n c4]] W fun e w' => e = .returned (.bool true) ∧ Below W.heap.size W w' from fun W A4 c4 h1 h2 => by
          have h := rsame_any kind sub kind sub ps ps A A4 n n c c4 W h1 h2 (by omega) (by omega)
          unfold EqPost at h
          rw [decide_eq_true rfl, decide_eq_true rfl, decide_eq_true rfl] at h
          exact h)
        obtain ⟨L, hL⟩ : ∃ L, lineP (kind ++ [47] ++ sub) ps = L := ⟨_, rfl⟩
        have hLl : L.length ≤ 10000000 := hL ▸ HK.out.one
        have HPA := Lib.hid (show ∀ W, Tabs W → Calls Tryz.prog 10 #[.string (ba L)] W (TypPost W (⟨kind, sub, ps⟩, true)) from fun W ht => by
          rw [← HK.out.parse, hL]
          exact parse_any L W hLl ht)
        unfold TypPost at HPA
        rw [hL] at HWR hft
        have HPU := Lib.hid (show ∀ W, Calls Tryz.prog 27 #[.string ⟨#[67, 111, 110, 116, 101, 110, 116, 45, 84, 121, 112, 101]⟩, .string (ba L)] W (StrB W (putP ctName L)) from fun W => hput_any ctName L W (by decide) (by omega))
        unfold StrB at HPU
        obtain ⟨P, hPp⟩ : ∃ P, putP ctName L = P := ⟨_, rfl⟩
        have hPl : P.length ≤ 100000000 := hPp ▸ hft.put
        have hap : ba P ++ ⟨#[13, 10]⟩ = ba (P ++ [13, 10]) := (ba_append P [13, 10]).symm ▸ rfl
        have hln : ¬ 9223372036854775807 < (ba P).size + (⟨#[13, 10]⟩ : ByteArray).size := by rw [ba_size]; show ¬ _ < P.length + 2; omega
        have HHP := Lib.hid (show ∀ W, Tabs W → Calls Tryz.prog 26 #[.string (ba (P ++ [13, 10]))] W (HeadPost W (fs, fk)) from fun W ht => by
          rw [← hft.head, hPp]
          exact hparse_any (P ++ [13, 10]) W (by rw [List.length_append]; simp; omega) ht)
        unfold HeadPost at HHP
        simp only [hPp] at HPU
        have HGE := Lib.hid (show ∀ A9 m9 c9 W, Flds W W.heap.size A9 m9 fs → Tabs W → Calls Tryz.prog 28 #[.slice A9 m9 c9, .string ⟨#[99, 111, 110, 116, 101, 110, 116, 45, 116, 121, 112, 101]⟩] W (GetPost9 W (some L)) from fun A9 m9 c9 W h1 h2 => by
          rw [← hft.get]
          exact hget_any fs A9 m9 c9 ctSmall W h1 (by rw [← h1.len]; exact hft.one) hft.few (by decide) h2)
        unfold GetPost9 at HGE
        clear hL hft hPp hlt hk
        obtain ⟨sk, hsk⟩ : ∃ q, ba kind = q := ⟨_, rfl⟩
        obtain ⟨ss, hss⟩ : ∃ q, ba sub = q := ⟨_, rfl⟩
        have HKK := Lib.hid hsk
        have HKS := Lib.hid hss
        rw [hsk] at ha0 HSA HWR
        rw [hss] at ha1 HSA HWR
        clear hsk hss
        go_wp2_with fail
        refine HWR.out.mono ?_
        rintro e w3 ⟨rfl, hb3⟩
        have v0 : w3.cell? ⟨w.heap.size, 0, none⟩ = some (.string sk) := (hb3.cell (p := ⟨w.heap.size, 0, none⟩) hz2).trans ha0
        have v1 : w3.cell? ⟨w.heap.size, 1, none⟩ = some (.string ss) := (hb3.cell (p := ⟨w.heap.size, 1, none⟩) hz2).trans ha1
        have v2 : w3.cell? ⟨w.heap.size, 2, none⟩ = some (.slice A n c) := (hb3.cell (p := ⟨w.heap.size, 2, none⟩) hz2).trans ha2
        have hz3 : w.heap.size < w3.heap.size := Nat.lt_of_lt_of_le hz2 hb3.size
        have HB3 := Lib.hid (HB2.out.trans (hb3.mono HB2.out.size))
        have HT3 := Lib.hid (HT2.out.below hb3)
        clear hb3 HWR ha0 ha1 ha2 hz2 HP2 HT2 HB2
        go_wp2_with fail
        refine (HPU.out w3).mono ?_
        rintro e w4 ⟨rfl, hb4⟩
        have x0 : w4.cell? ⟨w.heap.size, 0, none⟩ = some (.string sk) := (hb4.cell (p := ⟨w.heap.size, 0, none⟩) hz3).trans v0
        have x1 : w4.cell? ⟨w.heap.size, 1, none⟩ = some (.string ss) := (hb4.cell (p := ⟨w.heap.size, 1, none⟩) hz3).trans v1
        have x2 : w4.cell? ⟨w.heap.size, 2, none⟩ = some (.slice A n c) := (hb4.cell (p := ⟨w.heap.size, 2, none⟩) hz3).trans v2
        have hz4 : w.heap.size < w4.heap.size := Nat.lt_of_lt_of_le hz3 hb4.size
        have HB4 := Lib.hid (HB3.out.trans (hb4.mono HB3.out.size))
        have HT4 := Lib.hid (HT3.out.below hb4)
        clear hb4 HPU v0 v1 v2 hz3 HT3 HB3
        go_wp2_with fail
        refine (HHP.out w4 HT4.out).mono ?_
        rintro e w5 ⟨fv, rfl, hown5, hb5⟩
        obtain ⟨A5, c5, rfl, -, -, hf5⟩ := hown5.reads
        have HF5 := Lib.hid hf5
        obtain ⟨m5, hm5⟩ : ∃ m, (fs, fk).1.length = m := ⟨_, rfl⟩
        rw [hm5] at HF5 ⊢
        have r0 : w5.cell? ⟨w.heap.size, 0, none⟩ = some (.string sk) := (hb5.cell (p := ⟨w.heap.size, 0, none⟩) hz4).trans x0
        have r1 : w5.cell? ⟨w.heap.size, 1, none⟩ = some (.string ss) := (hb5.cell (p := ⟨w.heap.size, 1, none⟩) hz4).trans x1
        have r2 : w5.cell? ⟨w.heap.size, 2, none⟩ = some (.slice A n c) := (hb5.cell (p := ⟨w.heap.size, 2, none⟩) hz4).trans x2
        have hz5 : w.heap.size < w5.heap.size := Nat.lt_of_lt_of_le hz4 hb5.size
        have HB5 := Lib.hid (HB4.out.trans (hb5.mono HB4.out.size))
        have HT5 := Lib.hid (HT4.out.below hb5)
        clear hb5 hown5 hf5 hm5 HHP x0 x1 x2 hz4 HT4 HB4 hap hln
        go_wp2_with fail
        refine (HGE.out A5 m5 c5 w5 HF5.out HT5.out).mono ?_
        rintro e w6 ⟨rfl, hb6⟩
        have y0 : w6.cell? ⟨w.heap.size, 0, none⟩ = some (.string sk) := (hb6.cell (p := ⟨w.heap.size, 0, none⟩) hz5).trans r0
        have y1 : w6.cell? ⟨w.heap.size, 1, none⟩ = some (.string ss) := (hb6.cell (p := ⟨w.heap.size, 1, none⟩) hz5).trans r1
        have y2 : w6.cell? ⟨w.heap.size, 2, none⟩ = some (.slice A n c) := (hb6.cell (p := ⟨w.heap.size, 2, none⟩) hz5).trans r2
        have hz6 : w.heap.size < w6.heap.size := Nat.lt_of_lt_of_le hz5 hb6.size
        have HB6 := Lib.hid (HB5.out.trans (hb6.mono HB5.out.size))
        have HT6 := Lib.hid (HT5.out.below hb6)
        clear hb6 HGE HF5 r0 r1 r2 hz5 HT5 HB5
        rw [show (some L).getD [] = L from rfl, show (some L).isSome = true from rfl]
        go_wp2_with fail
        refine (HPA.out w6 HT6.out).mono ?_
        rintro e w7 ⟨pv, rfl, hown7, hb7⟩
        obtain ⟨A7, c7, rfl, -, -, hp7⟩ := hown7.reads
        replace hp7 : Pars w7 w7.heap.size A7 n ps := by rw [← HN.out]; exact hp7
        rw [show (⟨kind, sub, ps⟩ : Typ).params.length = n from HN.out]
        rw [show ba (⟨kind, sub, ps⟩ : Typ).kind = sk from HKK.out, show ba (⟨kind, sub, ps⟩ : Typ).sub = ss from HKS.out]
        have q0 : w7.cell? ⟨w.heap.size, 0, none⟩ = some (.string sk) := (hb7.cell (p := ⟨w.heap.size, 0, none⟩) hz6).trans y0
        have q1 : w7.cell? ⟨w.heap.size, 1, none⟩ = some (.string ss) := (hb7.cell (p := ⟨w.heap.size, 1, none⟩) hz6).trans y1
        have q2 : w7.cell? ⟨w.heap.size, 2, none⟩ = some (.slice A n c) := (hb7.cell (p := ⟨w.heap.size, 2, none⟩) hz6).trans y2
        have hz7 : w.heap.size < w7.heap.size := Nat.lt_of_lt_of_le hz6 hb7.size
        have hzne : ¬ w.heap.size = w7.heap.size := by omega
        have HB7 := Lib.hid (HB6.out.trans (hb7.mono HB6.out.size))
        have HB8 := Lib.hid (HB7.out.alloc HB7.out.size (.cells #[.string sk, .string ss, .slice A7 n c7] 26))
        have hb78 := (Below.refl w7.heap.size w7).alloc (Nat.le_refl _) (.cells #[.string sk, .string ss, .slice A7 n c7] 26)
        have HP8 := Lib.hid ((HP.out.below HB8.out).more HB8.out.size)
        have HU8 := Lib.hid ((hp7.below hb78).more hb78.size)
        clear hown7 hb7 hb78 hp7 HPA y0 y1 y2 hz6 HT6 HB6
        go_wp2_with fail
        refine (HSA.out _ A7 c7 HP8.out HU8.out).mono ?_
        rintro e w9 ⟨rfl, hb9⟩
        have HB9 := Lib.hid (HB8.out.trans (hb9.mono HB8.out.size))
        clear hb9
        go_wp2
        go_ret
        exact ⟨rfl, HB9.out⟩
end Go.Proofs.YtnpgnohlcphfnaaGreatDoor
