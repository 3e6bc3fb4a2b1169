/- Layer 12: the contract of value, the formatter of a parameter's value. Layer 12: the contracts of get and value. Layer 12: the contract of value (printed by gen_value.py). Layer 12: what list keeps while it goes through the rows. -/
import Derived.Test.YtnpgnohlcphfnaaGreatDoorM08
import Derived.Test.YtnpgnohlcphfnaaGreatDoorM10
import Derived.Test.YtnpgnohlcphfnaaGreatDoorM05
import Derived.Test.YtnpgnohlcphfnaaGreatDoorM03
import Derived.Test.YtnpgnohlcphfnaaGreatDoorM07
section
namespace Go.Proofs.YtnpgnohlcphfnaaGreatDoor
open Go.RowKit
set_option linter.unusedVariables false

def encC (c : UInt8) : List UInt8 := if letterB c = true ∨ c = 45 ∨ c = 46 ∨ c = 95 ∨ c = 126 then [c] else [37, hexU (c.toNat / 16), hexU (c.toNat % 16)]
theorem encU_snoc {l : List UInt8} {k : Nat} (hk : k < l.length) : encU (l.take (k + 1)) = encU (l.take k) ++ encC l[k] := by
  rw [List.take_succ_eq_append_getElem hk]
  unfold encU
  rw [List.flatMap_append]
  congr 1
  exact List.append_nil _
theorem encC_len (c : UInt8) : (encC c).length ≤ 3 := by unfold encC; split <;> simp
theorem encU_len : ∀ l : List UInt8, (encU l).length ≤ 3 * l.length
  | [] => Nat.le_refl _
  | c :: l => by
    have ih := encU_len l
    have h := encC_len c
    show (encC c ++ encU l).length ≤ 3 * (l.length + 1)
    rw [List.length_append]
    omega
def freeC (c : UInt8) : Bool := letterB c || [45, 46, 95, 126].contains c
theorem encC_free (c : UInt8) : encC c = if freeC c = true then [c] else 37 :: Lib.toUpperA (hexP [c]) :=
  u8_all (fun c => encC c = if freeC c = true then [c] else 37 :: Lib.toUpperA (hexP [c])) (by decide +kernel) c
theorem hex_ascii (c : UInt8) : ((hexP [c]).all fun b => decide (b.toNat < 128)) = true ∧ (hexP [c]).length = 2 ∧ (Lib.toUpperA (hexP [c])).length = 2 :=
  u8_all (fun c => ((hexP [c]).all fun b => decide (b.toNat < 128)) = true ∧ (hexP [c]).length = 2 ∧ (Lib.toUpperA (hexP [c])).length = 2) (by decide +kernel) c
theorem upper_any (c : UInt8) (w : World) : Calls Tryz.prog 77 #[.string (ba (hexP [c]))] w (StrB w (Lib.toUpperA (hexP [c]))) := by
  obtain ⟨h1, h2, _⟩ := hex_ascii c
  refine (Tryz.strings_ToUpper_ascii (ba (hexP [c])) w (by rw [ba_size, h2]; decide) fun j b hb => ?_).mono ?_
  · rw [ba_list] at hb
    exact of_decide_eq_true (List.all_eq_true.1 h1 b (List.mem_of_getElem? hb))
  · rintro e w' ⟨rfl, hb⟩
    rw [ba_list]
    exact ⟨rfl, hb⟩
theorem esc_new (W : World) : ∀ j u, (sv escStrs)[j]? = some u → (W.alloc (.cells #[.string ⟨#[92]⟩, .string ⟨#[92, 92]⟩, .string ⟨#[34]⟩, .string ⟨#[92, 34]⟩] 9)).cell? ((⟨W.heap.size, 0, none⟩ : Addr).add j) = some u :=
  fun j u hu => World.news_of_block (MapKept.heap_alloc W _).1 j u hu
/-- The state of the loop that percent-encodes. -/
structure EnRel (w : World) (b : Nat) (l : List UInt8) (k : Nat) (wr : World) : Prop where
  bld : Bld wr b b ([42, 61, 117, 116, 102, 45, 56, 39, 39] ++ encU (l.take k))
  bel : Below b w wr
set_option maxRecDepth 100000 in
set_option maxHeartbeats 4000000 in
theorem fmt_any (l : List UInt8) (w : World) (hl : l.length ≤ 100000000) :
    Calls Tryz.prog 41 #[.string (ba l)] w (StrB w (fmtV l)) := by
  have HF := Lib.hid (fmtV_eq l)
  have HA1 := Lib.hid (show ∀ W, Calls Tryz.prog 75 #[.string (ba l), .int .u8 33, .string ⟨#[40, 41, 60, 62, 64, 44, 59, 58, 92, 34, 47, 91, 93, 63, 61]⟩] W fun e w' => e = .returned (.bool (allB 33 plainBut l)) ∧ w' = W from fun W => all_any l 33 plainBut W (by omega))
  have HA2 := Lib.hid (show ∀ W, Calls Tryz.prog 75 #[.string (ba l), .int .u8 32, .string ⟨#[]⟩] W fun e w' => e = .returned (.bool (allB 32 [] l)) ∧ w' = W from fun W => all_any l 32 [] W (by omega))
  have HQ := Lib.hid (fun b g c w0 w1 (h : NewRepAt w0 w1 b g c) => replace_any l b g c w0 w1 (by omega) h)
  have HEN := Lib.hid (esc_new w)
  have HEL := Lib.hid (escQ_len l)
  have HNE := Lib.hid (show nEsc l ≤ l.length by have := nEsc_le l l.length; rwa [List.take_of_length_le (Nat.le_refl _)] at this)
  have HAP1 := Lib.hid (show (⟨#[61, 34]⟩ : ByteArray) ++ ba (escQ l) = ba ([61, 34] ++ escQ l) from ba_append [61, 34] _)
  have HAP2 := Lib.hid (show ba ([61, 34] ++ escQ l) ++ (⟨#[34]⟩ : ByteArray) = ba ([61, 34] ++ escQ l ++ [34]) from ba_append _ [34])
  have HEX := Lib.hid (fun i j => ba_cut l i j)
  have HUL := Lib.hid (fun k => encU_len (l.take k))
  have hnil : l = [] ∨ l ≠ [] := by
    cases l with
    | nil => exact .inl rfl
    | cons a r => exact .inr (by simp)
  have HP0 := Lib.hid (show l = [] → allB 33 plainBut l = true ∧ allB 32 [] l = true from fun h => by rw [h]; exact ⟨rfl, rfl⟩)
  obtain ⟨b1, hb1⟩ : ∃ b, allB 33 plainBut l = b := ⟨_, rfl⟩
  obtain ⟨b2, hb2⟩ : ∃ b, allB 32 [] l = b := ⟨_, rfl⟩
  have HPL := Lib.hid (show plainV l ↔ l ≠ [] ∧ b1 = true by unfold plainV; rw [hb1])
  simp only [hb1, hb2] at HF HA1 HA2 HP0
  clear hb1 hb2
  have HTE := Lib.hid (ba_toList l)
  obtain ⟨f, hf⟩ : ∃ f, fmtV l = f := ⟨_, rfl⟩
  rw [hf] at HF ⊢
  clear hf
  have hsz1 : (ba l).size = l.length := ba_size l
  obtain ⟨n, hn⟩ : ∃ n, l.length = n := ⟨_, rfl⟩
  have HL := Lib.hid hn
  obtain ⟨s, hs⟩ : ∃ s, ba l = s := ⟨_, rfl⟩
  have HS := Lib.hid hs
  have HZ := Lib.hid (show s.size = n by rw [← hs, ba_size, hn])
  have hsz : (s.size : Int) = n := by rw [HZ.out]
  rw [hs]
  rw [hn] at hl
  clear hs hn
  rw [HS.out] at HEX HA1 HA2 HTE
  simp only [HS.out] at HQ
  have hew : (l ≠ [] ∧ (s.toList != []) = true ∧ s.toList.isEmpty = false) ∨ (l = [] ∧ (s.toList != []) = false ∧ s.toList.isEmpty = true) := by
    rw [HTE.out]
    rcases hnil with h | h
    · exact .inr ⟨h, by rw [h]; rfl, by rw [h]; rfl⟩
    · refine .inl ⟨h, by simpa using h, ?_⟩
      cases l with
      | nil => exact absurd rfl h
      | cons a r => rfl
  have hquote : (¬ plainV l) → b2 = true → f = [61, 34] ++ escQ l ++ [34] := fun h1 h2 => by rw [HF.out, if_neg h1, if_pos h2]
  have HQU := Lib.hid hquote
  have hln1 : ¬ 9223372036854775807 < 2 + (ba (escQ l)).size := by rw [ba_size, HEL.out, HL.out]; have := HNE.out; rw [HL.out] at this; omega
  have hln2 : ¬ 9223372036854775807 < (ba ([61, 34] ++ escQ l)).size + 1 := by rw [ba_size, List.length_append, HEL.out, HL.out]; have := HNE.out; rw [HL.out] at this; simp; omega
  obtain ⟨q1, hq1⟩ : ∃ q, ba ([61, 34] ++ escQ l) = q := ⟨_, rfl⟩
  rw [hq1] at hln2 HAP1 HAP2
  obtain ⟨q0, hq0⟩ : ∃ q, ba (escQ l) = q := ⟨_, rfl⟩
  rw [hq0] at hln1 HAP1
  simp only [hq0] at HQ
  have hap1 := HAP1.out
  have hap2 := HAP2.out
  clear hq0 hq1 hquote hnil hsz1
  rcases hew with ⟨hne, g0, g0'⟩ | ⟨hem, g0, g0'⟩
  · cases b1
    · have HNP := Lib.hid (show ¬ plainV l from fun h => absurd (HPL.out.1 h).2 (by decide))
      cases b2
      · have HV := Lib.hid (show f = [42, 61, 117, 116, 102, 45, 56, 39, 39] ++ encU l by rw [HF.out, if_neg HNP.out, if_neg (by decide)])
        have HB0 := Lib.hid (bld_new w)
        clear hap1 hap2 hln1 hln2
        go_enter Tryz.func41, Tryz.ntmps41
        go_wp2_with fail
        refine (HA1.out _).mono ?_
        rintro e w' ⟨rfl, hw⟩
        have hw2 := hw.symm
        subst hw2
        clear hw
        go_wp2_with fail
        refine (HA2.out _).mono ?_
        rintro e w' ⟨rfl, hw⟩
        have hw2 := hw.symm
        subst hw2
        clear hw
        go_wp2_with fail
        refine (write_string _ _ _ [42, 61, 117, 116, 102, 45, 56, 39, 39] _ HB0.out (by decide) (by simp)).mono ?_
        rintro e w2 ⟨rfl, hW⟩
        have HST := Lib.hid (show EnRel w w.heap.size l 0 w2 from ⟨hW.bld, ((Below.refl _ _).alloc (Nat.le_refl _) _).trans hW.bel⟩)
        clear hW g0 g0'
        go_wp2
        go_loopw [4, 26] (fun y i wr => ∃ (k : Nat) (z : Value), y = z ∧ k ≤ n ∧ i = .int .i64 (k : Int) ∧ Hid (EnRel w w.heap.size l k wr)) (fun _ i _ => n - (intOf i).toNat)
        case atStart => exact ⟨0, _, rfl, Nat.zero_le _, rfl, HST⟩
        case round =>
          obtain ⟨k, z, rfl, hk, rfl, HR⟩ := hrel
          have hsz3 := HR.out.bel.size
          by_cases hlt : k < n
          · have hk2 : (k : Int) < (n : Int) := by omega
            have hk0 : (0 : Int) ≤ (k : Int) := by omega
            have hks : k < s.size := by rw [HZ.out]; omega
            have hkl : k < l.length := by rw [HL.out]; omega
            have hget : s[k] = l[k] := by
              have h := HS.out
              subst h
              rfl
            have HSN := Lib.hid (encU_snoc hkl)
            have HONE := Lib.hid (show (l.take (k + 1)).drop k = [l[k]] by
              rw [List.take_succ_eq_append_getElem hkl, List.drop_left' (by rw [List.length_take]; omega)])
            have HLK := Lib.hid (show (encU (l.take k)).length ≤ 300000000 by have := HUL.out k; rw [List.length_take] at this; omega)
            obtain ⟨c, hc⟩ : ∃ c, l[k] = c := ⟨_, rfl⟩
            rw [hc] at hget HSN HONE
            obtain ⟨x, hx⟩ : ∃ x : Int, (c.toNat : Int) = x := ⟨_, rfl⟩
            have hgi : ((s[k]).toNat : Int) = x := by rw [hget]; exact hx
            have HX := Lib.hid hx
            have hx0 : 0 ≤ x := by omega
            have hx1 : x ≤ 255 := by have := c.toNat_lt; omega
            clear hc hkl hget hx
            have hext := HEX.out k (k + 1)
            rw [HONE.out] at hext
            have HEX1 := Lib.hid hext
            have HFR := Lib.hid (encC_free c)
            have HFD := Lib.hid (show freeC c = (letterB c || [45, 46, 95, 126].contains c) from rfl)
            have HLE := fun W => letter_any c W
            have HIX := fun W => indexb_any c [45, 46, 95, 126] W
            have HWI := index_has c [45, 46, 95, 126]
            have HUP := Lib.hid (fun W => upper_any c W)
            have HHX := Lib.hid (fun W => hex_any [c] W (by simp))
            have HUL2 := Lib.hid (hex_ascii c).2.2
            have hb37 : (⟨#[37]⟩ : ByteArray) ++ ba (Lib.toUpperA (hexP [c])) = ba ([37] ++ Lib.toUpperA (hexP [c])) := ba_append [37] _
            have hl37 : ¬ 9223372036854775807 < 1 + (ba (Lib.toUpperA (hexP [c]))).size := by rw [ba_size, HUL2.out]; decide
            have HWB := Lib.hid (fun W (h : Bld W w.heap.size w.heap.size ([42, 61, 117, 116, 102, 45, 56, 39, 39] ++ encU (l.take k))) hB => write_byte w.heap.size w.heap.size ([42, 61, 117, 116, 102, 45, 56, 39, 39] ++ encU (l.take k)) c W h (by have := HLK.out; rw [List.length_append]; show 9 + _ + 1 ≤ _; omega) hB)
            have HWS := Lib.hid (show ∀ W, Bld W w.heap.size w.heap.size ([42, 61, 117, 116, 102, 45, 56, 39, 39] ++ encU (l.take k)) → w.heap.size ≤ W.heap.size → Calls Tryz.prog 60 #[.pointer (some ⟨w.heap.size, 0, none⟩), .string (ba (37 :: Lib.toUpperA (hexP [c])))] W _ from fun W h hB => write_string w.heap.size w.heap.size ([42, 61, 117, 116, 102, 45, 56, 39, 39] ++ encU (l.take k)) (37 :: Lib.toUpperA (hexP [c])) W h (by have := HLK.out; have := HUL2.out; rw [List.length_append, List.length_cons]; show 9 + _ + (_ + 1) ≤ _; omega) hB)
            rw [HX.out] at HLE HIX HWB
            obtain ⟨b5, hb5⟩ : ∃ b, letterB c = b := ⟨_, rfl⟩
            obtain ⟨b6, hb6⟩ : ∃ b, [45, 46, 95, 126].contains c = b := ⟨_, rfl⟩
            obtain ⟨v6, hv6⟩ : ∃ v, Lib.indexByte [45, 46, 95, 126] c = v := ⟨_, rfl⟩
            rw [hv6, hb6] at HWI
            simp only [hv6] at HIX
            simp only [hb5] at HLE
            rw [hb5, hb6] at HFD
            have HLE := Lib.hid HLE
            have HIX := Lib.hid (show ∀ W, Calls Tryz.prog 67 #[.string ⟨#[45, 46, 95, 126]⟩, .int .u8 x] W fun e w' => e = .returned (.int .i64 v6) ∧ w' = W from HIX)
            have HRE := Lib.hid HR.out
            clear hb5 hb6 hv6 HR hext
            cases b5
            · cases b6
              · have hv7 : decide (0 ≤ v6) = false := HWI
                have HEC := Lib.hid (show encC c = 37 :: Lib.toUpperA (hexP [c]) by rw [HFR.out, HFD.out]; rfl)
                go_wp2_with fail
                refine (HLE.out _).mono ?_
                rintro e w' ⟨rfl, hw⟩
                have hw2 := hw.symm
                subst hw2
                clear hw
                go_wp2_with fail
                refine (HIX.out _).mono ?_
                rintro e w' ⟨rfl, hw⟩
                have hw2 := hw.symm
                subst hw2
                clear hw
                go_wp2_with fail
                rw [HEX1.out]
                refine (HHX.out _).mono ?_
                rintro e w3 ⟨rfl, hb3⟩
                have HB3 := Lib.hid hb3
                clear hb3
                go_wp2_with fail
                refine (HUP.out _).mono ?_
                rintro e w4 ⟨rfl, hb4⟩
                have HB4 := Lib.hid (HB3.out.trans (hb4.mono HB3.out.size))
                clear hb4
                go_wp2_with fail
                refine (HWS.out _ (HRE.out.bld.below HB4.out) (Nat.le_trans hsz3 HB4.out.size)).mono ?_
                rintro e w5 ⟨rfl, hW⟩
                have HST := Lib.hid (show EnRel w w.heap.size l (k + 1) w5 from ⟨by have := hW.bld; rw [List.append_assoc, ← HEC.out, ← HSN.out] at this; exact this, (HRE.out.bel.trans (HB4.out.mono hsz3)).trans hW.bel⟩)
                clear hW
                go_wp2
                go_roundw
                case rel => exact ⟨k + 1, _, rfl, by omega, by go_num, HST⟩
                case measure => simp [intOf] <;> omega
              · have hv7 : decide (0 ≤ v6) = true := HWI
                have HEC := Lib.hid (show encC c = [c] by rw [HFR.out, HFD.out]; rfl)
                go_wp2_with fail
                refine (HLE.out _).mono ?_
                rintro e w' ⟨rfl, hw⟩
                have hw2 := hw.symm
                subst hw2
                clear hw
                go_wp2_with fail
                refine (HIX.out _).mono ?_
                rintro e w' ⟨rfl, hw⟩
                have hw2 := hw.symm
                subst hw2
                clear hw
                go_wp2_with fail
                refine (HWB.out _ HRE.out.bld hsz3).mono ?_
                rintro e w5 ⟨rfl, hW⟩
                have HST := Lib.hid (show EnRel w w.heap.size l (k + 1) w5 from ⟨by have := hW.bld; rw [List.append_assoc, ← HEC.out, ← HSN.out] at this; exact this, HRE.out.bel.trans hW.bel⟩)
                clear hW
                go_wp2
                go_roundw
                case rel => exact ⟨k + 1, _, rfl, by omega, by go_num, HST⟩
                case measure => simp [intOf] <;> omega
            · have HEC := Lib.hid (show encC c = [c] by rw [HFR.out, HFD.out]; rfl)
              clear HWI
              go_wp2_with fail
              refine (HLE.out _).mono ?_
              rintro e w' ⟨rfl, hw⟩
              have hw2 := hw.symm
              subst hw2
              clear hw
              go_wp2_with fail
              refine (HWB.out _ HRE.out.bld hsz3).mono ?_
              rintro e w5 ⟨rfl, hW⟩
              have HST := Lib.hid (show EnRel w w.heap.size l (k + 1) w5 from ⟨by have := hW.bld; rw [List.append_assoc, ← HEC.out, ← HSN.out] at this; exact this, HRE.out.bel.trans hW.bel⟩)
              clear hW
              go_wp2
              go_roundw
              case rel => exact ⟨k + 1, _, rfl, by omega, by go_num, HST⟩
              case measure => simp [intOf] <;> omega
          · obtain rfl : n = k := by omega
            have HFN := Lib.hid (show f = [42, 61, 117, 116, 102, 45, 56, 39, 39] ++ encU (l.take n) by rw [HV.out, List.take_of_length_le (by rw [HL.out]; exact Nat.le_refl _)])
            go_wp2_with fail
            refine (bld_string _ _ _ wr HR.out.bld hsz3).mono ?_
            rintro e w5 ⟨rfl, hW⟩
            have HB5 := Lib.hid (HR.out.bel.trans hW.bel)
            clear hW
            go_wp2
            go_ret
            exact str_fin (congrArg ba HFN.out.symm) HB5.out
      · have HV := Lib.hid (HQU.out HNP.out rfl)
        go_enter Tryz.func41, Tryz.ntmps41
        go_wp2_with fail
        refine (HA1.out _).mono ?_
        rintro e w' ⟨rfl, hw⟩
        have hw2 := hw.symm
        subst hw2
        clear hw
        go_wp2_with fail
        refine (HA2.out _).mono ?_
        rintro e w' ⟨rfl, hw⟩
        have hw2 := hw.symm
        subst hw2
        clear hw
        go_wp2_with fail
        refine (newrep_any w.heap.size 4 _ HEN.out).mono ?_
        rintro e w1 ⟨b, g, c, rfl, hN⟩
        have HRP := Lib.hid (HQ.out _ _ _ _ _ hN)
        clear hN
        go_wp2_with fail
        refine HRP.out.mono ?_
        rintro e w2 ⟨rfl, hb2⟩
        have HB2 := Lib.hid hb2
        clear hb2
        go_wp2
        go_ret
        exact str_fin (congrArg ba HV.out.symm) (((Below.refl _ _).alloc (Nat.le_refl _) _).trans (HB2.out.mono (by simp)))
    · have HV := Lib.hid (show f = [61] ++ l by rw [HF.out, if_pos (HPL.out.2 ⟨hne, rfl⟩)]; rfl)
      have hap3 : (⟨#[61]⟩ : ByteArray) ++ s = ba ([61] ++ l) := by have h := ba_append [61] l; rw [HS.out] at h; exact h
      have hln3 : ¬ 9223372036854775807 < 1 + s.size := by rw [HZ.out]; omega
      clear hap1 hap2 hln1 hln2
      go_enter Tryz.func41, Tryz.ntmps41
      go_wp2_with fail
      refine (HA1.out _).mono ?_
      rintro e w' ⟨rfl, hw⟩
      have hw2 := hw.symm
      subst hw2
      clear hw
      go_wp2
      go_ret
      exact str_fin (congrArg ba HV.out.symm) (Below.refl _ _)
  · obtain ⟨rfl, rfl⟩ := HP0.out hem
    have HV := Lib.hid (HQU.out (fun h => (HPL.out.1 h).1 hem) rfl)
    clear hem
    go_enter Tryz.func41, Tryz.ntmps41
    go_wp2_with fail
    refine (HA2.out _).mono ?_
    rintro e w' ⟨rfl, hw⟩
    have hw2 := hw.symm
    subst hw2
    clear hw
    go_wp2_with fail
    refine (newrep_any w.heap.size 4 _ HEN.out).mono ?_
    rintro e w1 ⟨b, g, c, rfl, hN⟩
    have HRP := Lib.hid (HQ.out _ _ _ _ _ hN)
    clear hN
    go_wp2_with fail
    refine HRP.out.mono ?_
    rintro e w2 ⟨rfl, hb2⟩
    have HB2 := Lib.hid hb2
    clear hb2
    go_wp2
    go_ret
    exact str_fin (congrArg ba HV.out.symm) (((Below.refl _ _).alloc (Nat.le_refl _) _).trans (HB2.out.mono (by simp)))
end Go.Proofs.YtnpgnohlcphfnaaGreatDoor
end
section
namespace Go.Proofs.YtnpgnohlcphfnaaGreatDoor
open Go.RowKit
set_option linter.unusedVariables false

/-- What the map of the parameters says. -/
def parF (ones : List One1) (x : Spot3) : Option Value := (ones.find? fun o => decide (o.at_ = x)).map fun o => .string (ba o.value)
/-- What the map of the first ones says. -/
def firF (ones : List One1) (x : Spot3) : Option Value := if x.wide = false ∧ 0 ≤ x.section_ then (firstP ones x.name x.section_).map fun o => .bool o.at_.wide else none
/-- The two maps, at the blocks bp and bf. -/
structure PMaps (w : World) (ones : List One1) (bp bf : Nat) : Prop where
  par : ∃ c, MapL spotK w bp (parF ones) c
  fir : ∃ c, MapL spotK w bf (firF ones) c
theorem PMaps.below {w w' : World} {ones : List One1} {bp bf : Nat} (h : PMaps w ones bp bf) (hb : Below w.heap.size w w') : PMaps w' ones bp bf := by
  obtain ⟨⟨c, h1⟩, d, h2⟩ := h
  exact ⟨⟨c, h1.below hb⟩, d, h2.below hb⟩
theorem zero_str (w : World) : (zeroValue 9).run Tryz.prog w = .ok (.string ⟨#[]⟩) w := by kernel_rfl
theorem zero_bool (w : World) : (zeroValue 4).run Tryz.prog w = .ok (.bool false) w := by kernel_rfl
theorem fits_spot {name : List UInt8} {s : Int} {b : Bool} (hn : name.length ≤ 1000000000) (h0 : -1 ≤ s) (h1 : s ≤ 63) : spotK.fits ⟨name, s, b⟩ := by
  refine ⟨wf64 ⟨?_, ?_⟩, ?_⟩
  · show -9223372036854775808 ≤ s; omega
  · show s ≤ 9223372036854775807; omega
  · show name.length ≤ maxLen; unfold maxLen; omega
/-- The first of a name and a section is the first of its spot. -/
theorem par_first {ones : List One1} {name : List UInt8} {s : Int} {x : One1} (h : firstP ones name s = some x) : parF ones ⟨name, s, x.at_.wide⟩ = some (.string (ba x.value)) := by
  unfold firstP at h
  unfold parF
  have key : ones.find? (fun o => decide (o.at_ = ⟨name, s, x.at_.wide⟩)) = some x := by
    induction ones with
    | nil => cases h
    | cons a r ih =>
      rw [List.find?_cons] at h ⊢
      by_cases h1 : a.at_.name = name ∧ a.at_.section_ = s
      · have e : (decide (a.at_.name = name) && decide (a.at_.section_ = s)) = true := by simp [h1]
        rw [e] at h
        have hx : a = x := Option.some.inj h
        subst hx
        have e2 : decide (a.at_ = ⟨name, s, a.at_.wide⟩) = true := by
          rw [decide_eq_true_iff]
          cases ha : a.at_ with
          | mk n2 s2 w2 => rw [ha] at h1; rw [← h1.1, ← h1.2]
        rw [e2]
      · have e : (decide (a.at_.name = name) && decide (a.at_.section_ = s)) = false := by
          rw [Bool.eq_false_iff]
          intro h2
          rw [Bool.and_eq_true, decide_eq_true_iff, decide_eq_true_iff] at h2
          exact h1 h2
        rw [e] at h
        have e2 : decide (a.at_ = ⟨name, s, x.at_.wide⟩) = false := by
          rw [decide_eq_false_iff_not]
          intro h2
          rw [h2] at h1
          exact h1 ⟨rfl, rfl⟩
        rw [e2]
        exact ih h
  rw [key]
  rfl
def GetPost (w : World) (o : Option One1) (e : Ending) (w' : World) : Prop := e = .returned (.tuple #[.string (ba ((o.map (·.value)).getD [])), .bool ((o.map (·.at_.wide)).getD false), .bool o.isSome]) ∧ w' = w
set_option maxRecDepth 100000 in
set_option maxHeartbeats 4000000 in
theorem get_any (ones : List One1) (name : List UInt8) (s : Int) (bp bf : Nat) (w : World) (hP : PMaps w ones bp bf) (hn : name.length ≤ 1000000000) (h0 : 0 ≤ s) (h1 : s ≤ 63) :
    Calls Tryz.prog 105 #[.map (some bp), .string (ba name), .int .i64 s, .map (some bf)] w (GetPost w (firstP ones name s)) := by
  obtain ⟨⟨c, hp⟩, d, hf⟩ := hP
  have hl1 := hf.look_ok Tryz.underlying88 (zero_bool w) (x := ⟨name, s, false⟩) (fits_spot hn (by omega) h1)
  have hl2 : ∀ b, _ := fun b => hp.look Tryz.underlying87 (zero_str w) (x := ⟨name, s, b⟩) (fits_spot hn (by omega) h1)
  have HPF := Lib.hid (fun x => par_first (ones := ones) (name := name) (s := s) (x := x))
  unfold firF at hl1
  simp only [h0, and_self, if_true] at hl1
  unfold spotK at hl1 hl2
  simp only [spotV] at hl1 hl2
  obtain ⟨o, ho⟩ : ∃ o, firstP ones name s = o := ⟨_, rfl⟩
  rw [ho] at hl1
  simp only [ho] at HPF
  rw [ho]
  clear ho hp hf
  cases o with
  | none =>
    clear hl2
    go_enter Tryz.func105, Tryz.ntmps105
    go_wp2
    go_ret3
    exact ⟨rfl, rfl⟩
  | some x =>
    have hl3 := hl2 x.at_.wide
    rw [HPF.out x rfl] at hl3
    have HX := Lib.hid hl3
    clear hl2
    go_enter Tryz.func105, Tryz.ntmps105
    go_wp2
    go_ret3
    exact ⟨rfl, rfl⟩
end Go.Proofs.YtnpgnohlcphfnaaGreatDoor
end
section
namespace Go.Proofs.YtnpgnohlcphfnaaGreatDoor
open Go.RowKit
set_option linter.unusedVariables false

theorem openP_len : ∀ (n : Nat) (l : List UInt8), l.length ≤ n → (openP l).length ≤ l.length
  | 0, l, h => by
    have : l = [] := List.eq_nil_of_length_eq_zero (by omega)
    subst this
    exact Nat.le_refl _
  | n + 1, l, h => by
    cases l with
    | nil => exact Nat.le_refl _
    | cons c r =>
      have hr : r.length ≤ n := by simpa using h
      by_cases hs : c ≠ 37 ∨ r.length < 2 ∨ unhexP (r.take 2) = none
      · rw [openP_skip c r hs]
        have := openP_len n r hr
        simp only [List.length_cons]
        omega
      · have h1 : c = 37 := Classical.not_not.1 fun h => hs (.inl h)
        have h2 : 2 ≤ r.length := by
          rcases Nat.lt_or_ge r.length 2 with h | h
          · exact absurd (.inr (.inl h)) hs
          · exact h
        cases hz : unhexP (r.take 2) with
        | none => exact absurd (.inr (.inr hz)) hs
        | some z =>
          subst h1
          rw [openP_take r z h2 hz]
          have h3 := unhex_len _ _ hz
          rw [List.length_take] at h3
          have h4 := openP_len n (r.drop 2) (by rw [List.length_drop]; omega)
          rw [List.length_drop] at h4
          rw [List.length_append, List.length_cons]
          omega
theorem splitP_len (l : List UInt8) : (splitP l).1.length ≤ l.length ∧ (splitP l).2.length ≤ l.length := by
  rw [splitP_cut]
  have h1 := cutV_len 39 l
  have h2 := cutV_len 39 (cutV 39 l).2.1
  split
  · exact ⟨h1.1, by show (cutV 39 (cutV 39 l).2.1).2.1.length ≤ _; omega⟩
  · exact ⟨Nat.zero_le _, Nat.le_refl _⟩
def onesOk (ones : List One1) : Prop := ∀ x ∈ ones, x.value.length ≤ 10000000 ∧ x.at_.name.length ≤ 10000000
theorem first_mem {ones : List One1} {name : List UInt8} {s : Int} {x : One1} (h : firstP ones name s = some x) : x ∈ ones := List.mem_of_find?_eq_some h
theorem restG_len {ones : List One1} (h : onesOk ones) (name : List UInt8) : ∀ (f : Nat) (k : Int), (restG ones name f k).length ≤ f * 10000000
  | 0, k => by simp [restG]
  | f + 1, k => by
    unfold restG
    split
    · simp
    · rename_i x hx
      have h1 := (h x (first_mem hx)).1
      have h2 := restG_len h name f (k + 1)
      have h3 := openP_len _ x.value (Nat.le_refl _)
      rw [List.length_append]
      split <;> omega
theorem restG_none {ones : List One1} {name : List UInt8} {k : Int} (f : Nat) (h : firstP ones name k = none) : restG ones name f k = [] := by
  cases f with
  | zero => rfl
  | succ f => unfold restG; rw [h]
theorem restG_some {ones : List One1} {name : List UInt8} {k : Int} {f : Nat} {x : One1} (h : firstP ones name k = some x) : restG ones name (f + 1) k = (if x.at_.wide = true then openP x.value else x.value) ++ restG ones name f (k + 1) := by
  conv => lhs; unfold restG
  rw [h]
def ValPost (w : World) (o : Option (List UInt8)) (e : Ending) (w' : World) : Prop := e = .returned (.tuple #[.string (ba (o.getD [])), .bool o.isSome]) ∧ Below w.heap.size w w'
theorem val_fin {w w' : World} {o : Option (List UInt8)} {v : List UInt8} {s : ByteArray} (h : o = some v) (hs : s = ba v) (hb : Below w.heap.size w w') : ValPost w o (.returned (.tuple #[.string s, .bool true])) w' := by
  subst h
  subst hs
  exact ⟨rfl, hb⟩
/-- The plain ways of value. -/
theorem value_none {ones : List One1} {name : List UInt8} (h0 : firstP ones name 0 = none) (h1 : parF ones ⟨name, -1, true⟩ = none) : (valueP ones name).map (fun v => Value.string (ba v)) = parF ones ⟨name, -1, false⟩ := by
  unfold valueP
  rw [h0]
  unfold parF at h1
  have h2 : ones.find? (fun o => decide (o.at_ = ⟨name, -1, true⟩)) = none := Option.map_eq_none_iff.1 h1
  simp only [h2]
  rw [Option.map_map]
  unfold parF firstP
  have h3 : ∀ x ∈ ones, (decide (x.at_.name = name) && decide (x.at_.section_ = -1)) = decide (x.at_ = ⟨name, -1, false⟩) := fun x hx => by
    have h4 := List.find?_eq_none.1 h2 x hx
    have h5 : x.at_ ≠ ⟨name, -1, true⟩ := by simpa using h4
    rw [Bool.eq_iff_iff, Bool.and_eq_true, decide_eq_true_iff, decide_eq_true_iff, decide_eq_true_iff]
    constructor
    · intro h6
      cases ha : x.at_ with
      | mk n2 s2 w2 =>
        rw [ha] at h6 h5
        obtain ⟨h7, h8⟩ := h6
        subst h7; subst h8
        cases w2 with
        | true => exact absurd rfl h5
        | false => rfl
    · intro h6
      rw [h6]
      exact ⟨rfl, rfl⟩
  have h6 : ones.find? (fun x => decide (x.at_.name = name) && decide (x.at_.section_ = -1)) = ones.find? (fun o => decide (o.at_ = ⟨name, -1, false⟩)) := by
    clear h0 h1 h2
    induction ones with
    | nil => rfl
    | cons a r ih =>
      rw [List.find?_cons, List.find?_cons, h3 a (List.mem_cons_self ..), ih fun x hx => h3 x (List.mem_cons_of_mem _ hx)]
  rw [h6]
  rfl
theorem value_wide {ones : List One1} {name : List UInt8} (h0 : firstP ones name 0 = none) {v : Value} (h1 : parF ones ⟨name, -1, true⟩ = some v) : ∃ x ∈ ones, v = .string (ba x.value) ∧ valueP ones name = some (meantP (splitP x.value).1 (openP (splitP x.value).2)) := by
  unfold parF at h1
  obtain ⟨x, hx, rfl⟩ := Option.map_eq_some_iff.1 h1
  refine ⟨x, List.mem_of_find?_eq_some hx, rfl, ?_⟩
  unfold valueP
  rw [h0]
  simp only [hx]
theorem value_sec {ones : List One1} {name : List UInt8} {x : One1} (h0 : firstP ones name 0 = some x) : valueP ones name =
    if x.at_.wide = true then some (meantP (splitP x.value).1 (openP (splitP x.value).2 ++ restG ones name 63 1)) else some (x.value ++ restG ones name 63 1) := by
  unfold valueP
  rw [h0]
/-- The state of the loop over the sections. -/
structure SecRel (w : World) (ones : List One1) (name base : List UInt8) (k : Nat) (acc : List UInt8) (wr : World) : Prop where
  eq : acc ++ restG ones name (64 - k) k = base ++ restG ones name 63 1
  bel : Below w.heap.size w wr
  len : acc.length ≤ k * 10000000
set_option maxRecDepth 100000 in
set_option maxHeartbeats 4000000 in
theorem value_any (ones : List One1) (name : List UInt8) (bp bf : Nat) (w : World) (hP : PMaps w ones bp bf) (hn : name.length ≤ 1000000000) (hok : onesOk ones) (hT : Tabs w) :
    Calls Tryz.prog 70 #[.map (some bp), .string (ba name), .map (some bf)] w (ValPost w (valueP ones name)) := by
  have HP := Lib.hid hP
  have HT := Lib.hid hT
  have HOK := Lib.hid hok
  have HG0 := Lib.hid (get_any ones name 0 bp bf w hP hn (by omega) (by omega))
  unfold GetPost at HG0
  obtain ⟨⟨c, hp⟩, _⟩ := hP
  have hl1 := hp.look_ok Tryz.underlying87 (zero_str w) (x := ⟨name, -1, true⟩) (fits_spot hn (by omega) (by omega))
  have hl2 := hp.look_ok Tryz.underlying87 (zero_str w) (x := ⟨name, -1, false⟩) (fits_spot hn (by omega) (by omega))
  clear hp hT hok
  cases hf0 : firstP ones name 0 with
  | none =>
    rw [hf0] at HG0
    cases hp1 : parF ones ⟨name, -1, true⟩ with
    | none =>
      have HV := Lib.hid (value_none hf0 hp1)
      rw [hp1] at hl1
      obtain ⟨vo, hvo⟩ : ∃ o, valueP ones name = o := ⟨_, rfl⟩
      rw [hvo] at HV ⊢
      rw [← HV.out] at hl2
      unfold spotK at hl1 hl2
      simp only [spotV] at hl1 hl2
      clear hf0 hp1 hvo
      cases vo with
      | none =>
        go_enter Tryz.func70, Tryz.ntmps70
        go_wp2_with fail
        refine HG0.out.mono ?_
        rintro e w2 ⟨rfl, hw⟩
        have hw2 := hw.symm
        subst hw2
        clear hw
        go_wp2
        go_ret2
        exact ⟨rfl, Below.refl _ _⟩
      | some v =>
        go_enter Tryz.func70, Tryz.ntmps70
        go_wp2_with fail
        refine HG0.out.mono ?_
        rintro e w2 ⟨rfl, hw⟩
        have hw2 := hw.symm
        subst hw2
        clear hw
        go_wp2
        go_ret2
        exact ⟨rfl, Below.refl _ _⟩
    | some v =>
      obtain ⟨x, hx, rfl, hv⟩ := value_wide hf0 hp1
      have HV := Lib.hid hv
      have hxl := (HOK.out x hx).1
      have hsl := splitP_len x.value
      have hol := openP_len _ (splitP x.value).2 (Nat.le_refl _)
      rw [hp1] at hl1
      unfold spotK at hl1
      simp only [spotV] at hl1
      have HSP := Lib.hid (split_any x.value w (by omega) HT.out)
      unfold SplitPost at HSP
      have HXL := Lib.hid hxl
      clear hf0 hp1 hl2 hv hx hxl
      obtain ⟨⟨set_, rest⟩, hss⟩ : ∃ q, splitP x.value = q := ⟨_, rfl⟩
      rw [hss] at HSP HV hsl hol
      have HSL := Lib.hid (And.intro hsl.1 (And.intro hsl.2 hol))
      clear hss hsl hol
      go_enter Tryz.func70, Tryz.ntmps70
      go_wp2_with fail
      refine HG0.out.mono ?_
      rintro e w2 ⟨rfl, hw⟩
      have hw2 := hw.symm
      subst hw2
      clear hw
      go_wp2_with fail
      refine HSP.out.mono ?_
      rintro e w3 ⟨rfl, hb3⟩
      have HB3 := Lib.hid hb3
      have hz3 := hb3.size
      clear hb3
      go_wp2_with fail
      refine (open_any rest w3 (by have h1 : rest.length ≤ x.value.length := HSL.out.2.1; have := HXL.out; omega)).mono ?_
      rintro e w4 ⟨rfl, hb4⟩
      have HB4 := Lib.hid (HB3.out.trans (hb4.mono hz3))
      have hz4 := HB4.out.size
      clear hb4
      go_wp2_with fail
      refine (meant_any set_ (openP rest) w4 (by have h1 : set_.length ≤ x.value.length := HSL.out.1; have := HXL.out; omega) (by have h1 : (openP rest).length ≤ rest.length := HSL.out.2.2; have h2 : rest.length ≤ x.value.length := HSL.out.2.1; have := HXL.out; omega) (HT.out.below HB4.out)).mono ?_
      rintro e w5 ⟨rfl, hb5⟩
      have HB5 := Lib.hid hb5
      clear hb5
      go_wp2
      go_ret2
      exact val_fin HV.out rfl (HB4.out.trans (HB5.out.mono hz4))
  | some x =>
    rw [hf0] at HG0
    have HV := Lib.hid (value_sec hf0)
    have hxl := (HOK.out x (first_mem hf0)).1
    have hsl := splitP_len x.value
    have hol := openP_len _ (splitP x.value).2 (Nat.le_refl _)
    have HSP := Lib.hid (split_any x.value w (by omega) HT.out)
    unfold SplitPost at HSP
    have HXL := Lib.hid hxl
    obtain ⟨xw, hxw⟩ : ∃ b, x.at_.wide = b := ⟨_, rfl⟩
    have hg0 := HG0.out
    simp only [Option.map_some, Option.getD_some, hxw, Option.isSome_some] at hg0
    have HG := Lib.hid hg0
    rw [hxw] at HV
    clear hf0 hl1 hl2 hxl HG0 hg0 hxw
    cases xw
    · obtain ⟨base, hbase⟩ : ∃ b, x.value = b := ⟨_, rfl⟩
      rw [hbase] at HV HG HXL
      have HVAL := Lib.hid (show valueP ones name = some (base ++ restG ones name 63 1) from HV.out)
      have HBL := Lib.hid (show base.length ≤ 10000000 from HXL.out)
      clear hbase hsl hol
      go_enter Tryz.func70, Tryz.ntmps70
      go_wp2_with fail
      refine HG.out.mono ?_
      rintro e w2 ⟨rfl, hw⟩
      have hw2 := hw.symm
      subst hw2
      clear hw
      have HB0 := Lib.hid (Below.refl w.heap.size w)
      go_wp2
      go_loopw [18, 19, 20, 21, 22, 72] (fun oo i a b c d wr => ∃ (k : Nat) (acc : List UInt8) (xa xb xc xd : Value), a = xa ∧ b = xb ∧ c = xc ∧ d = xd ∧ 1 ≤ k ∧ k ≤ 64 ∧ i = .int .i64 (k : Int) ∧ oo = .string (ba acc) ∧ Hid (SecRel w ones name base k acc wr)) (fun _ i _ _ _ _ _ => 64 - (intOf i).toNat)
      case atStart => exact ⟨1, base, _, _, _, _, rfl, rfl, rfl, rfl, by omega, by omega, rfl, rfl, Lib.hid ⟨rfl, HB0.out, by have := HBL.out; omega⟩⟩
      case round =>
        obtain ⟨k, acc, xa, xb, xc, xd, rfl, rfl, rfl, rfl, hk1, hk2, rfl, rfl, HR⟩ := hrel
        have hszr := HR.out.bel.size
        have hal := HR.out.len
        have HBEX := Lib.hid HR.out.bel
        have HEQ := Lib.hid HR.out.eq
        have HLENX := Lib.hid (show acc.length ≤ 640000000 by omega)
        have HLK := Lib.hid hal
        clear hal HR
        by_cases hlt : k < 64
        · have hki : (k : Int) < 64 := by omega
          have HGK := Lib.hid (get_any ones name (k : Int) bp bf wr (HP.out.below HBEX.out) hn (by omega) (by omega))
          unfold GetPost at HGK
          cases hfk : firstP ones name (k : Int) with
          | none =>
            rw [hfk] at HGK
            have HACC := Lib.hid (show acc = base ++ restG ones name 63 1 by
              have := HEQ.out
              rw [restG_none _ hfk, List.append_nil] at this
              exact this)
            clear hfk
            go_wp2_with fail
            refine HGK.out.mono ?_
            rintro e w8 ⟨rfl, hw⟩
            have hw2 := hw.symm
            subst hw2
            clear hw
            go_wp2
            go_ret2
            exact val_fin HVAL.out (by rw [HACC.out]) HBEX.out
          | some y =>
            rw [hfk] at HGK
            have hyl := (HOK.out y (first_mem hfk)).1
            have HEQ2 := Lib.hid (show (acc ++ if y.at_.wide = true then openP y.value else y.value) ++ restG ones name (64 - (k + 1)) ((k + 1 : Nat) : Int) = base ++ restG ones name 63 1 by
              have := HEQ.out
              rw [show 64 - k = (64 - (k + 1)) + 1 by omega, restG_some hfk] at this
              rw [List.append_assoc, ← this]
              rfl)
            have hopl := openP_len _ y.value (Nat.le_refl _)
            have HYL := Lib.hid hyl
            have HOPL := Lib.hid hopl
            obtain ⟨yw, hyw⟩ : ∃ b, y.at_.wide = b := ⟨_, rfl⟩
            have hgk := HGK.out
            simp only [Option.map_some, Option.getD_some, hyw, Option.isSome_some] at hgk
            have HGK2 := Lib.hid hgk
            rw [hyw] at HEQ2
            clear hfk hyl hopl hgk HGK hyw
            cases yw
            · have hap := ba_append acc y.value
              have hln : ¬ 9223372036854775807 < (ba acc).size + (ba y.value).size := by
                rw [ba_size, ba_size]
                have := HLENX.out
                have := HYL.out
                omega
              have HE3 := Lib.hid (show (acc ++ y.value) ++ restG ones name (64 - (k + 1)) ((k + 1 : Nat) : Int) = base ++ restG ones name 63 1 from HEQ2.out)
              have HL3 := Lib.hid (show (acc ++ y.value).length ≤ (k + 1) * 10000000 by rw [List.length_append]; have := HLK.out; have := HYL.out; omega)
              go_wp2_with fail
              refine HGK2.out.mono ?_
              rintro e w8 ⟨rfl, hw⟩
              have hw2 := hw.symm
              subst hw2
              clear hw
              go_wp2
              go_roundw
              case rel => exact ⟨k + 1, acc ++ y.value, _, _, _, _, rfl, rfl, rfl, rfl, by omega, by omega, by go_num, rfl, Lib.hid ⟨HE3.out, HBEX.out, HL3.out⟩⟩
              case measure => simp [intOf] <;> omega
            · have hap := ba_append acc (openP y.value)
              have hln : ¬ 9223372036854775807 < (ba acc).size + (ba (openP y.value)).size := by
                rw [ba_size, ba_size]
                have := HLENX.out
                have := HYL.out
                have := HOPL.out
                omega
              have HE3 := Lib.hid (show (acc ++ openP y.value) ++ restG ones name (64 - (k + 1)) ((k + 1 : Nat) : Int) = base ++ restG ones name 63 1 from HEQ2.out)
              have HL3 := Lib.hid (show (acc ++ openP y.value).length ≤ (k + 1) * 10000000 by rw [List.length_append]; have := HLK.out; have := HYL.out; have := HOPL.out; omega)
              have HOP := Lib.hid (open_any y.value wr (by have := HYL.out; omega))
              go_wp2_with fail
              refine HGK2.out.mono ?_
              rintro e w8 ⟨rfl, hw⟩
              have hw2 := hw.symm
              subst hw2
              clear hw
              go_wp2_with fail
              refine HOP.out.mono ?_
              rintro e w8 ⟨rfl, hb8⟩
              have HB8 := Lib.hid hb8
              clear hb8
              go_wp2
              go_roundw
              case rel => exact ⟨k + 1, acc ++ openP y.value, _, _, _, _, rfl, rfl, rfl, rfl, by omega, by omega, by go_num, rfl, Lib.hid ⟨HE3.out, HBEX.out.trans (HB8.out.mono hszr), HL3.out⟩⟩
              case measure => simp [intOf] <;> omega
        · obtain rfl : k = 64 := by omega
          have HACC := Lib.hid (show acc = base ++ restG ones name 63 1 by
            have := HEQ.out
            rw [show restG ones name (64 - 64) ((64 : Nat) : Int) = [] from rfl, List.append_nil] at this
            exact this)
          go_wp2
          go_ret2
          exact val_fin HVAL.out (by rw [HACC.out]) HBEX.out
    · obtain ⟨⟨set_, rest⟩, hss⟩ : ∃ q, splitP x.value = q := ⟨_, rfl⟩
      rw [hss] at HSP HV hsl hol
      have HSETL := Lib.hid (show set_.length ≤ 1000000000 by have h1 : set_.length ≤ x.value.length := hsl.1; have := HXL.out; omega)
      have HRL := Lib.hid (show rest.length ≤ 1000000000 by have h1 : rest.length ≤ x.value.length := hsl.2; have := HXL.out; omega)
      have HBL := Lib.hid (show (openP rest).length ≤ 10000000 by have h1 : rest.length ≤ x.value.length := hsl.2; have h2 : (openP rest).length ≤ rest.length := hol; have := HXL.out; omega)
      have HOPR := Lib.hid (fun W => open_any rest W HRL.out)
      obtain ⟨base, hbase⟩ : ∃ b, openP rest = b := ⟨_, rfl⟩
      have HVAL := Lib.hid (show valueP ones name = some (meantP set_ (base ++ restG ones name 63 1)) by rw [← hbase]; exact HV.out)
      rw [hbase] at HBL
      simp only [hbase] at HOPR
      clear hbase hsl hol hss
      go_enter Tryz.func70, Tryz.ntmps70
      go_wp2_with fail
      refine HG.out.mono ?_
      rintro e w2 ⟨rfl, hw⟩
      have hw2 := hw.symm
      subst hw2
      clear hw
      go_wp2_with fail
      refine HSP.out.mono ?_
      rintro e w3 ⟨rfl, hb3⟩
      have HB3 := Lib.hid hb3
      have hz3 := hb3.size
      clear hb3
      go_wp2_with fail
      refine (HOPR.out w3).mono ?_
      rintro e w4 ⟨rfl, hb4⟩
      have HB0 := Lib.hid (HB3.out.trans (hb4.mono hz3))
      clear hb4
      go_wp2
      go_loopw [18, 19, 20, 21, 22, 72] (fun oo i a b c d wr => ∃ (k : Nat) (acc : List UInt8) (xa xb xc xd : Value), a = xa ∧ b = xb ∧ c = xc ∧ d = xd ∧ 1 ≤ k ∧ k ≤ 64 ∧ i = .int .i64 (k : Int) ∧ oo = .string (ba acc) ∧ Hid (SecRel w ones name base k acc wr)) (fun _ i _ _ _ _ _ => 64 - (intOf i).toNat)
      case atStart => exact ⟨1, base, _, _, _, _, rfl, rfl, rfl, rfl, by omega, by omega, rfl, rfl, Lib.hid ⟨rfl, HB0.out, by have := HBL.out; omega⟩⟩
      case round =>
        obtain ⟨k, acc, xa, xb, xc, xd, rfl, rfl, rfl, rfl, hk1, hk2, rfl, rfl, HR⟩ := hrel
        have hszr := HR.out.bel.size
        have hal := HR.out.len
        have HBEX := Lib.hid HR.out.bel
        have HEQ := Lib.hid HR.out.eq
        have HLENX := Lib.hid (show acc.length ≤ 640000000 by omega)
        have HLK := Lib.hid hal
        clear hal HR
        by_cases hlt : k < 64
        · have hki : (k : Int) < 64 := by omega
          have HGK := Lib.hid (get_any ones name (k : Int) bp bf wr (HP.out.below HBEX.out) hn (by omega) (by omega))
          unfold GetPost at HGK
          cases hfk : firstP ones name (k : Int) with
          | none =>
            rw [hfk] at HGK
            have HACC := Lib.hid (show acc = base ++ restG ones name 63 1 by
              have := HEQ.out
              rw [restG_none _ hfk, List.append_nil] at this
              exact this)
            clear hfk
            go_wp2_with fail
            refine HGK.out.mono ?_
            rintro e w8 ⟨rfl, hw⟩
            have hw2 := hw.symm
            subst hw2
            clear hw
            go_wp2_with fail
            refine (meant_any set_ acc wr HSETL.out (by have := HLENX.out; omega) (HT.out.below HBEX.out)).mono ?_
            rintro e w9 ⟨rfl, hb9⟩
            have HB9 := Lib.hid hb9
            clear hb9
            go_wp2
            go_ret2
            exact val_fin HVAL.out (by rw [HACC.out]) (HBEX.out.trans (HB9.out.mono hszr))
          | some y =>
            rw [hfk] at HGK
            have hyl := (HOK.out y (first_mem hfk)).1
            have HEQ2 := Lib.hid (show (acc ++ if y.at_.wide = true then openP y.value else y.value) ++ restG ones name (64 - (k + 1)) ((k + 1 : Nat) : Int) = base ++ restG ones name 63 1 by
              have := HEQ.out
              rw [show 64 - k = (64 - (k + 1)) + 1 by omega, restG_some hfk] at this
              rw [List.append_assoc, ← this]
              rfl)
            have hopl := openP_len _ y.value (Nat.le_refl _)
            have HYL := Lib.hid hyl
            have HOPL := Lib.hid hopl
            obtain ⟨yw, hyw⟩ : ∃ b, y.at_.wide = b := ⟨_, rfl⟩
            have hgk := HGK.out
            simp only [Option.map_some, Option.getD_some, hyw, Option.isSome_some] at hgk
            have HGK2 := Lib.hid hgk
            rw [hyw] at HEQ2
            clear hfk hyl hopl hgk HGK hyw
            cases yw
            · have hap := ba_append acc y.value
              have hln : ¬ 9223372036854775807 < (ba acc).size + (ba y.value).size := by
                rw [ba_size, ba_size]
                have := HLENX.out
                have := HYL.out
                omega
              have HE3 := Lib.hid (show (acc ++ y.value) ++ restG ones name (64 - (k + 1)) ((k + 1 : Nat) : Int) = base ++ restG ones name 63 1 from HEQ2.out)
              have HL3 := Lib.hid (show (acc ++ y.value).length ≤ (k + 1) * 10000000 by rw [List.length_append]; have := HLK.out; have := HYL.out; omega)
              go_wp2_with fail
              refine HGK2.out.mono ?_
              rintro e w8 ⟨rfl, hw⟩
              have hw2 := hw.symm
              subst hw2
              clear hw
              go_wp2
              go_roundw
              case rel => exact ⟨k + 1, acc ++ y.value, _, _, _, _, rfl, rfl, rfl, rfl, by omega, by omega, by go_num, rfl, Lib.hid ⟨HE3.out, HBEX.out, HL3.out⟩⟩
              case measure => simp [intOf] <;> omega
            · have hap := ba_append acc (openP y.value)
              have hln : ¬ 9223372036854775807 < (ba acc).size + (ba (openP y.value)).size := by
                rw [ba_size, ba_size]
                have := HLENX.out
                have := HYL.out
                have := HOPL.out
                omega
              have HE3 := Lib.hid (show (acc ++ openP y.value) ++ restG ones name (64 - (k + 1)) ((k + 1 : Nat) : Int) = base ++ restG ones name 63 1 from HEQ2.out)
              have HL3 := Lib.hid (show (acc ++ openP y.value).length ≤ (k + 1) * 10000000 by rw [List.length_append]; have := HLK.out; have := HYL.out; have := HOPL.out; omega)
              have HOP := Lib.hid (open_any y.value wr (by have := HYL.out; omega))
              go_wp2_with fail
              refine HGK2.out.mono ?_
              rintro e w8 ⟨rfl, hw⟩
              have hw2 := hw.symm
              subst hw2
              clear hw
              go_wp2_with fail
              refine HOP.out.mono ?_
              rintro e w8 ⟨rfl, hb8⟩
              have HB8 := Lib.hid hb8
              clear hb8
              go_wp2
              go_roundw
              case rel => exact ⟨k + 1, acc ++ openP y.value, _, _, _, _, rfl, rfl, rfl, rfl, by omega, by omega, by go_num, rfl, Lib.hid ⟨HE3.out, HBEX.out.trans (HB8.out.mono hszr), HL3.out⟩⟩
              case measure => simp [intOf] <;> omega
        · obtain rfl : k = 64 := by omega
          have HACC := Lib.hid (show acc = base ++ restG ones name 63 1 by
            have := HEQ.out
            rw [show restG ones name (64 - 64) ((64 : Nat) : Int) = [] from rfl, List.append_nil] at this
            exact this)
          go_wp2_with fail
          refine (meant_any set_ acc wr HSETL.out (by have := HLENX.out; omega) (HT.out.below HBEX.out)).mono ?_
          rintro e w9 ⟨rfl, hb9⟩
          have HB9 := Lib.hid hb9
          clear hb9
          go_wp2
          go_ret2
          exact val_fin HVAL.out (by rw [HACC.out]) (HBEX.out.trans (HB9.out.mono hszr))
end Go.Proofs.YtnpgnohlcphfnaaGreatDoor
end
section
namespace Go.Proofs.YtnpgnohlcphfnaaGreatDoor
open Go.RowKit
set_option linter.unusedVariables false

def seenF (ones : List One1) (x : List UInt8) : Option Value := if x ∈ namesP ones then some (.bool true) else none
theorem parF_snoc (ones : List One1) (o : One1) (y : Spot3) : parF (ones ++ [o]) y = match parF ones y with
    | some v => some v
    | none => if y = o.at_ then some (.string (ba o.value)) else none := by
  unfold parF
  rw [List.find?_append]
  cases h : ones.find? (fun p => decide (p.at_ = y)) with
  | some p => rfl
  | none =>
    show (([o].find? fun p => decide (p.at_ = y)).map fun p => Value.string (ba p.value)) = _
    by_cases e : o.at_ = y
    · have e2 : y = o.at_ := e.symm
      simp [e]
    · have e2 : ¬ y = o.at_ := fun h => e h.symm
      simp [e, e2]
theorem firstP_snoc (ones : List One1) (o : One1) (n : List UInt8) (s : Int) : firstP (ones ++ [o]) n s = match firstP ones n s with
    | some v => some v
    | none => if o.at_.name = n ∧ o.at_.section_ = s then some o else none := by
  unfold firstP
  rw [List.find?_append]
  cases h : ones.find? (fun x => decide (x.at_.name = n) && decide (x.at_.section_ = s)) with
  | some p => rfl
  | none =>
    show ([o].find? fun x => decide (x.at_.name = n) && decide (x.at_.section_ = s)) = _
    by_cases e : o.at_.name = n ∧ o.at_.section_ = s
    · simp [e]
    · rw [if_neg e]
      rw [List.find?_cons]
      have : (decide (o.at_.name = n) && decide (o.at_.section_ = s)) = false := by
        rw [Bool.eq_false_iff]
        intro h2
        rw [Bool.and_eq_true, decide_eq_true_iff, decide_eq_true_iff] at h2
        exact e h2
      rw [this]
      rfl
theorem firF_snoc (ones : List One1) (o : One1) (y : Spot3) : firF (ones ++ [o]) y = match firF ones y with
    | some v => some v
    | none => if y = ⟨o.at_.name, o.at_.section_, false⟩ ∧ 0 ≤ o.at_.section_ then some (Value.bool o.at_.wide) else none := by
  unfold firF
  by_cases h : y.wide = false ∧ 0 ≤ y.section_
  · rw [if_pos h, if_pos h, firstP_snoc]
    cases hf : firstP ones y.name y.section_ with
    | some p => rfl
    | none =>
      show ((if o.at_.name = y.name ∧ o.at_.section_ = y.section_ then some o else none).map fun o => Value.bool o.at_.wide) = _
      by_cases e : o.at_.name = y.name ∧ o.at_.section_ = y.section_
      · have e2 : y = ⟨o.at_.name, o.at_.section_, false⟩ ∧ 0 ≤ o.at_.section_ := by
          refine ⟨?_, by rw [e.2]; exact h.2⟩
          cases y with
          | mk a b c =>
            obtain ⟨e1, e2⟩ := e
            have e3 : c = false := h.1
            subst e3
            show (⟨a, b, false⟩ : Spot3) = _
            rw [e1, e2]
        rw [if_pos e]
        simp only [Option.map_none]
        rw [if_pos e2]
        rfl
      · have e2 : ¬ (y = ⟨o.at_.name, o.at_.section_, false⟩ ∧ 0 ≤ o.at_.section_) := fun h2 => e (by rw [h2.1]; exact ⟨rfl, rfl⟩)
        rw [if_neg e]
        simp only [Option.map_none]
        rw [if_neg e2]
  · rw [if_neg h, if_neg h]
    have e2 : ¬ (y = ⟨o.at_.name, o.at_.section_, false⟩ ∧ 0 ≤ o.at_.section_) := fun h2 => h (by rw [h2.1]; exact ⟨rfl, h2.2⟩)
    show none = (if y = ⟨o.at_.name, o.at_.section_, false⟩ ∧ 0 ≤ o.at_.section_ then some (Value.bool o.at_.wide) else none)
    rw [if_neg e2]
theorem namesP_snoc (ones : List One1) (o : One1) : namesP (ones ++ [o]) = if o.at_.name ∈ namesP ones then namesP ones else namesP ones ++ [o.at_.name] := by
  unfold namesP
  rw [List.foldl_append]
  rfl
theorem onesP_snoc (rs : List (List Tok)) (r : List Tok) : onesP (rs ++ [r]) = onesP rs ++ (if (pairP r).1 = [] then [] else [⟨whereP (pairP r).1, (pairP r).2⟩]) := by
  unfold onesP
  rw [List.map_append, List.filterMap_append]
  congr 1
  by_cases h : (pairP r).1 = []
  · simp [h]
  · simp [h]
section
variable {w w' : World} {ones : List One1} {o : One1} {b c : Nat}
/-- The map of the parameters, one more. -/
theorem par_keep (h : MapL spotK w b (parF ones) c) {v : Value} (hv : parF ones o.at_ = some v) : MapL spotK w b (parF (ones ++ [o])) c := by
  refine h.congr fun y _ => ?_
  rw [parF_snoc]
  cases hy : parF ones y with
  | some u => rfl
  | none =>
    have : ¬ y = o.at_ := fun e => by rw [e, hv] at hy; cases hy
    show (if y = o.at_ then _ else none) = none
    rw [if_neg this]
theorem par_put {c' : Nat} (h : MapL spotK w b (updK (parF ones) o.at_ (.string (ba o.value))) c') (hv : parF ones o.at_ = none) : MapL spotK w b (parF (ones ++ [o])) c' := by
  refine h.congr fun y _ => ?_
  rw [parF_snoc]
  by_cases e : y = o.at_
  · subst e
    rw [hv, updK_same]
    simp
  · rw [updK_other _ _ e]
    cases hy : parF ones y with
    | some u => rfl
    | none =>
      show (if y = o.at_ then _ else none) = none
      rw [if_neg e]
theorem fir_skip (h : MapL spotK w b (firF ones) c) (hs : ¬ 0 ≤ o.at_.section_) : MapL spotK w b (firF (ones ++ [o])) c := by
  refine h.congr fun y _ => ?_
  rw [firF_snoc]
  cases hy : firF ones y with
  | some u => rfl
  | none =>
    show (if y = ⟨o.at_.name, o.at_.section_, false⟩ ∧ 0 ≤ o.at_.section_ then _ else none) = none
    rw [if_neg fun h2 => hs h2.2]
theorem fir_keep (h : MapL spotK w b (firF ones) c) {v : Value} (hv : firF ones ⟨o.at_.name, o.at_.section_, false⟩ = some v) : MapL spotK w b (firF (ones ++ [o])) c := by
  refine h.congr fun y _ => ?_
  rw [firF_snoc]
  cases hy : firF ones y with
  | some u => rfl
  | none =>
    show (if y = ⟨o.at_.name, o.at_.section_, false⟩ ∧ 0 ≤ o.at_.section_ then _ else none) = none
    rw [if_neg fun h2 => by rw [h2.1, hv] at hy; cases hy]
theorem fir_put {c' : Nat} (h : MapL spotK w b (updK (firF ones) ⟨o.at_.name, o.at_.section_, false⟩ (.bool o.at_.wide)) c') (hv : firF ones ⟨o.at_.name, o.at_.section_, false⟩ = none) (hs : 0 ≤ o.at_.section_) : MapL spotK w b (firF (ones ++ [o])) c' := by
  refine h.congr fun y _ => ?_
  rw [firF_snoc]
  by_cases e : y = ⟨o.at_.name, o.at_.section_, false⟩
  · subst e
    rw [hv, updK_same]
    simp [hs]
  · rw [updK_other _ _ e]
    cases hy : firF ones y with
    | some u => rfl
    | none =>
      show (if y = ⟨o.at_.name, o.at_.section_, false⟩ ∧ 0 ≤ o.at_.section_ then _ else none) = none
      rw [if_neg fun h2 => e h2.1]
theorem seen_keep (h : MapL strK w b (seenF ones) c) (hv : o.at_.name ∈ namesP ones) : MapL strK w b (seenF (ones ++ [o])) c := by
  refine h.congr fun y _ => ?_
  unfold seenF
  rw [namesP_snoc, if_pos hv]
theorem seen_put {c' : Nat} (h : MapL strK w b (updK (seenF ones) o.at_.name (.bool true)) c') (hv : ¬ o.at_.name ∈ namesP ones) : MapL strK w b (seenF (ones ++ [o])) c' := by
  refine h.congr fun y _ => ?_
  by_cases e : y = o.at_.name
  · subst e
    rw [updK_same]
    unfold seenF
    rw [namesP_snoc, if_neg hv, if_pos (by simp)]
  · rw [updK_other _ _ e]
    unfold seenF
    rw [namesP_snoc, if_neg hv]
    by_cases h2 : y ∈ namesP ones
    · rw [if_pos h2, if_pos (by simp [h2])]
    · rw [if_neg h2, if_neg (by simp [h2, e])]
end
end Go.Proofs.YtnpgnohlcphfnaaGreatDoor
end
