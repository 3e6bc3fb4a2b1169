/- SegmentPrefixes: the law returns true (printed by gen_pref.py). -/
import Derived.Test.YtfinpehbpcckaaaGreatDoorPrefP
namespace Go.Proofs.YtfinpehbpcckaaaGreatDoor
open Go.RowKit
set_option linter.unusedVariables false

set_option maxRecDepth 100000 in
set_option maxHeartbeats 8000000 in
theorem prefixes_any (A : Option Addr) (n c : Nat) (es : List Ent) (pre : List UInt8) (w : World) (hE : Ents w w.heap.size A n es) (hc : n ≤ maxLen) (hw : pre.length ≤ maxLen) (ht : Tables w) :
    Calls Tryz.prog 7 #[.slice A n c, .string (ba pre)] w fun e w' => e = .returned (.bool true) ∧ Below w.heap.size w w' := by
  have HE := Lib.hid hE
  have HT := Lib.hid ht
  have HW := Lib.hid (ba_size pre)
  clear hE ht
  obtain ⟨wb, hwb⟩ : ∃ wb, ba pre = wb := ⟨_, rfl⟩
  have HWB := Lib.hid hwb
  rw [hwb] at HW ⊢
  clear hwb
  go_enter Tryz.func7, Tryz.ntmps7
  go_wp2_with fail
  refine (small_any w HT.out).mono ?_
  rintro e w1 ⟨rfl, hb1⟩
  have HB1 := Lib.hid hb1
  have HE1 := Lib.hid ((HE.out.below hb1).more hb1.size)
  clear hb1
  go_wp2_with fail
  refine (few_any A n c es w1 HE1.out hc).mono ?_
  rintro e w2 ⟨b, rfl, hfew, rfl⟩
  cases b
  · clear hfew
    go_wp2
    go_ret
    exact ⟨rfl, HB1.out⟩
  have hfew := hfew rfl
  have HFEW := Lib.hid hfew
  by_cases hlen : pre.length ≤ 100
  · have hg : ¬ (100 : Int) < (wb.size : Int) := by rw [HW.out]; omega
    have hn9 : n ≤ 24 := by rw [← HE1.out.len]; exact hfew.1
    clear hfew
    go_wp2_with fail
    refine (seg_build A n c es w2 HE1.out HFEW.out.ents (HT.out.below HB1.out)).mono ?_
    rintro e w3 ⟨hb3, A3, n3, c3, D3, m3, d3, s, rfl, hS, hBt⟩
    have HGOOD := Lib.hid (used_goods HFEW.out.ents)
    have HEF := Lib.hid HFEW.out.efew
    have HBT := Lib.hid hBt
    have HSF := Lib.hid (hBt.few HGOOD.out HEF.out)
    have hbb : Below w3.heap.size w3 (w3.alloc (.cells #[.slice A3 n3 c3, .slice D3 m3 d3] 28)) := (Below.refl _ _).alloc (Nat.le_refl _) _
    have g0 : (w3.alloc (.cells #[.slice A3 n3 c3, .slice D3 m3 d3] 28)).cell? ⟨w3.heap.size, 0, none⟩ = some (.slice A3 n3 c3) := by go_simp
    have g1 : (w3.alloc (.cells #[.slice A3 n3 c3, .slice D3 m3 d3] 28)).cell? ⟨w3.heap.size, 1, none⟩ = some (.slice D3 m3 d3) := by go_simp
    have hz : (w3.alloc (.cells #[.slice A3 n3 c3, .slice D3 m3 d3] 28)).heap.size = w3.heap.size + 1 := by simp
    have hb13 := HB1.out.trans (hb3.mono HB1.out.size)
    obtain ⟨W1, hW1⟩ : ∃ W, w3.alloc (.cells #[.slice A3 n3 c3, .slice D3 m3 d3] 28) = W := ⟨_, rfl⟩
    obtain ⟨g, hg0⟩ : ∃ g, w3.heap.size = g := ⟨_, rfl⟩
    have HB := Lib.hid (hb13.trans (hbb.mono hb13.size))
    have HS := Lib.hid (hS.below hbb)
    have HEW := Lib.hid ((HE1.out.below (hb3.trans (hbb.mono hb3.size))).more (show w2.heap.size ≤ W1.heap.size by rw [← hW1, hz]; have := hb3.size; omega))
    rw [hW1] at g0 g1 hz HB HS HEW
    rw [hg0] at g0 g1 hz HS
    have HZ := Lib.hid hz
    have hgw : g < W1.heap.size := by omega
    have HLOOK := Lib.hid (fun (W : World) (hW : Below W1.heap.size W1 W) (f : Int) (y : List UInt8) => seg_look A3 D3 n3 c3 m3 d3 s f y W (((HS.out.below (hW.mono (by omega))).more (by have := hW.size; omega))) HSF.out (HT.out.below (HB.out.trans (hW.mono HB.out.size))))
    have HPREF := Lib.hid (fun (W : World) (hW : Below W1.heap.size W1 W) (f : Int) (y : List UInt8) => seg_pref A3 D3 n3 c3 m3 d3 s f y W (((HS.out.below (hW.mono (by omega))).more (by have := hW.size; omega))) HSF.out (HT.out.below (HB.out.trans (hW.mono HB.out.size))))
    clear hb3 hS hBt hbb hb13 hz
    go_wp2
    clear hW1 hg0
    have HNT := Lib.hid HS.out.terms.len
    have hn3 : n3 ≤ 5000 := by rw [← HNT.out]; exact HSF.out.terms
    have HNL := Lib.hid (fun (f : Int) (y : List UInt8) => show Nice (usedE es) (lookP s f y) from nice_found HBT.out HGOOD.out HEF.out f _)
    have HNO := Lib.hid (fun (f : Int) (ts : List Trm) => (nice_ofL HBT.out HGOOD.out HEF.out f pre ts).1)
    have HNA := Lib.hid (fun (q : Nat) => (nice_upTo (fun f => HNO.out f s.terms) q).1)
    have HNE := Lib.hid (fun (q : Nat) => (nice_upTo (fun f => HNL.out f pre) q).1)
    go_loopw [7, 8, 9] (fun v u i wr => ∃ q : Nat, ∃ f : Int, q ≤ 5 ∧ f = (q : Int) + 1 ∧ i = .int .i64 f ∧ Hid (PV wr v (upTo (fun f => ofL s f pre s.terms) q) ∧ PV wr u (upTo (fun f => lookP s f pre) q) ∧ Below W1.heap.size W1 wr)) (fun _ _ i _ => 6 - (intOf i).toNat)
    case atStart => exact ⟨0, 1, by omega, by omega, rfl, PV.nil_ _, PV.nil_ _, Below.refl _ _⟩
    case round =>
      obtain ⟨q, f, hq, hf, rfl, HR⟩ := hrel
      obtain ⟨⟨Av, nv, cv, rfl, hv1, hv2, hv3⟩, ⟨Au, nu, cu, rfl, hu1, hu2, hu3⟩, hbw⟩ := HR.out
      have HBW := Lib.hid hbw
      have HV3 := Lib.hid hv3
      have HU3 := Lib.hid hu3
      have hsz := hbw.size
      have y1 : wr.cell? ⟨g, 0, none⟩ = some (.slice A3 n3 c3) := (hbw.cell (p := ⟨g, 0, none⟩) hgw).trans g0
      have y2 : wr.cell? ⟨g, 1, none⟩ = some (.slice D3 m3 d3) := (hbw.cell (p := ⟨g, 1, none⟩) hgw).trans g1
      clear hv3 hu3 hbw HR
      by_cases hq5 : q < 5
      · have hf5 : f ≤ 5 := by omega
        have hf1 : 1 ≤ f := by omega
        have HFQ := Lib.hid hf
        clear hf
        obtain ⟨W3, rfl⟩ : ∃ W3, W3 = wr := ⟨_, rfl⟩
        go_wp2
        go_loopw [10, 11] (fun v i wr => ∃ k : Nat, k ≤ n3 ∧ i = .int .i64 (k : Int) ∧ Hid (PV wr v (ofL s f pre (s.terms.take k)) ∧ Below W3.heap.size W3 wr)) (fun _ i _ => n3 - (intOf i).toNat)
        case atStart => exact ⟨0, Nat.zero_le _, rfl, PV.nil_ _, Below.refl _ _⟩
        case round =>
          obtain ⟨k, hk, rfl, HR⟩ := hrel
          obtain ⟨⟨Ao, no, co, rfl, ho1, ho2, ho3⟩, hb3⟩ := HR.out
          have HO3 := Lib.hid ho3
          have HB3 := Lib.hid hb3
          have hsz3 := hb3.size
          have HBW3 := Lib.hid (HBW.out.trans (hb3.mono hsz))
          have y3 : wr.cell? ⟨g, 0, none⟩ = some (.slice A3 n3 c3) := (hb3.cell (p := ⟨g, 0, none⟩) (show g < _ by omega)).trans y1
          have y4 : wr.cell? ⟨g, 1, none⟩ = some (.slice D3 m3 d3) := (hb3.cell (p := ⟨g, 1, none⟩) (show g < _ by omega)).trans y2
          clear ho3 hb3 HR
          by_cases hkn : k < n3
          · have hk2 : (k : Int) < n3 := by omega
            have hkl : k < s.terms.length := by rw [HNT.out]; exact hkn
            obtain ⟨ad, rfl, hbl, t0, t1, -, -⟩ := (HS.out.terms.below (HBW3.out.mono (by omega))).at_ hkn
            have HTK := Lib.hid (ofL_take (f := f) (pre := pre) hkl)
            obtain ⟨t, ht⟩ : ∃ t, ti s.terms k = t := ⟨_, rfl⟩
            rw [ht] at t0 t1 HTK
            obtain ⟨ft, x, l⟩ := t
            dsimp only at t0 t1 HTK
            clear ht hkl
            obtain ⟨xb, hxb⟩ : ∃ xb, ba x = xb := ⟨_, rfl⟩
            have HXB := Lib.hid hxb
            have HXS := Lib.hid (ba_size x)
            rw [hxb] at t1 HXS
            clear hxb
            by_cases hfe : ft = f
            · subst hfe
              have e1 : (ft == ft) = true := by simp
              by_cases hle : pre.length ≤ x.length
              · have e2 : (wb.size : Int) ≤ (xb.size : Int) := by rw [HXS.out, HW.out]; omega
                have e3 : wb.size ≤ xb.size := by omega
                have e9 : ((xb.extract 0 wb.size).toList == wb.toList) = decide (pre <+: x) := by
                  rw [← HXB.out, ← HWB.out, ba_size, ba_cut, ba_toList, ba_toList, List.drop_zero, Bool.eq_iff_iff, beq_iff_eq, decide_eq_true_iff]
                  exact ⟨fun h => List.prefix_iff_eq_take.2 h.symm, fun h => (List.prefix_iff_eq_take.1 h).symm⟩
                obtain ⟨b, hb⟩ : ∃ b, decide (pre <+: x) = b := ⟨_, rfl⟩
                rw [hb] at e9
                have HBP := Lib.hid hb
                clear hb
                cases b
                · have HNX := Lib.hid (show ofL s ft pre (s.terms.take (k + 1)) = ofL s ft pre (s.terms.take k) by rw [HTK.out, if_neg (fun h => of_decide_eq_false HBP.out h.2)])
                  go_wp2
                  go_roundw
                  case rel => exact ⟨k + 1, by omega, by go_num, ⟨_, _, _, rfl, ho1, ho2, by rw [HNX.out]; exact HO3.out⟩, HB3.out⟩
                  case measure => simp [intOf] <;> omega
                · have HNX := Lib.hid (show ofL s ft pre (s.terms.take (k + 1)) = orP (ofL s ft pre (s.terms.take k)) (lookP s ft x) by rw [HTK.out, if_pos ⟨rfl, of_decide_eq_true HBP.out⟩])
                  have HLK := Lib.hid (HLOOK.out wr HBW3.out ft x)
                  rw [HXB.out] at HLK
                  go_wp2_with fail
                  refine HLK.out.mono ?_
                  intro e w7 hpost
                  obtain ⟨Al, nl, cl, rfl, hl1, hl2, hl3, hb7⟩ := back_form hpost
                  have HL3 := Lib.hid hl3
                  have HB7 := Lib.hid hb7
                  have HO7 := Lib.hid ((HO3.out.below hb7).more hb7.size)
                  have hsz7 := hb7.size
                  clear hl3 hb7 hpost HLK
                  go_wp2_with fail
                  refine (or_nice HEF.out Ao Al no nl co cl _ _ w7 HO7.out HL3.out ho1 ho2 hl1 hl2 (HNO.out ft _) (HNL.out ft x)).mono ?_
                  intro e w8 hpost
                  obtain ⟨Ar, nr, cr, rfl, hr1, hr2, hr3, hb8⟩ := back_form hpost
                  have HR3 := Lib.hid hr3
                  have HB8 := Lib.hid (HB3.out.trans ((HB7.out.trans (hb8.mono hsz7)).mono hsz3))
                  clear hr3 hb8 hpost
                  go_wp2
                  go_roundw
                  case rel => exact ⟨k + 1, by omega, by go_num, ⟨_, _, _, rfl, hr1, hr2, by rw [HNX.out]; exact HR3.out⟩, HB8.out⟩
                  case measure => simp [intOf] <;> omega
              · have e2 : ¬ (wb.size : Int) ≤ (xb.size : Int) := by rw [HXS.out, HW.out]; omega
                have HNX := Lib.hid (show ofL s ft pre (s.terms.take (k + 1)) = ofL s ft pre (s.terms.take k) by rw [HTK.out, if_neg (fun h => hle h.2.length_le)])
                go_wp2
                go_roundw
                case rel => exact ⟨k + 1, by omega, by go_num, ⟨_, _, _, rfl, ho1, ho2, by rw [HNX.out]; exact HO3.out⟩, HB3.out⟩
                case measure => simp [intOf] <;> omega
            · have e1 : (ft == f) = false := by simpa using hfe
              have HNX := Lib.hid (show ofL s f pre (s.terms.take (k + 1)) = ofL s f pre (s.terms.take k) by rw [HTK.out, if_neg (fun h => hfe h.1)])
              go_wp2
              go_roundw
              case rel => exact ⟨k + 1, by omega, by go_num, ⟨_, _, _, rfl, ho1, ho2, by rw [HNX.out]; exact HO3.out⟩, HB3.out⟩
              case measure => simp [intOf] <;> omega
          · obtain rfl : k = n3 := by omega
            have HOF := Lib.hid (show ofL s f pre (s.terms.take k) = ofL s f pre s.terms by rw [← HNT.out, List.take_length])
            have HPR := Lib.hid (show prefP s f pre = ofL s f pre s.terms from (ofL_pref HBT.out HGOOD.out HEF.out (by omega) pre).symm)
            rw [HOF.out] at HO3
            have HLP := Lib.hid (HPREF.out wr HBW3.out f pre)
            rw [HPR.out, HWB.out] at HLP
            go_wp2_with fail
            refine HLP.out.mono ?_
            intro e w7 hpost
            obtain ⟨Al, nl, cl, rfl, hl1, hl2, hl3, hb7⟩ := back_form hpost
            have HL3 := Lib.hid hl3
            have HO7 := Lib.hid ((HO3.out.below hb7).more hb7.size)
            have HB7 := Lib.hid (HB3.out.trans (hb7.mono hsz3))
            clear hl3 hb7 hpost HLP
            go_wp2_with fail
            refine (eq_nice HEF.out Al Ao nl cl no co _ w7 HL3.out HO7.out (HNO.out f _)).mono ?_
            rintro e w8 ⟨rfl, hb8⟩
            have HO8 := Lib.hid ((HO7.out.below hb8).more hb8.size)
            have HB8 := Lib.hid (HB7.out.trans (hb8.mono HB7.out.size))
            have HV8 := Lib.hid ((HV3.out.below HB8.out).more HB8.out.size)
            clear hb8
            go_wp2_with fail
            refine (or_nice HEF.out Av Ao nv no cv co _ _ w8 HV8.out HO8.out hv1 hv2 ho1 ho2 (HNA.out q) (HNO.out f _)).mono ?_
            intro e w9 hpost
            obtain ⟨Aa, na, ca, rfl, ha1, ha2, ha3, hb9⟩ := back_form hpost
            have HA3 := Lib.hid ha3
            have HB9 := Lib.hid (HB8.out.trans (hb9.mono HB8.out.size))
            have HBW9 := Lib.hid (HBW.out.trans (HB9.out.mono hsz))
            have HU9 := Lib.hid ((HU3.out.below HB9.out).more HB9.out.size)
            have HLK := Lib.hid (HLOOK.out w9 HBW9.out f pre)
            rw [HWB.out] at HLK
            have z1 := (HB9.out.cell (p := ⟨g, 0, none⟩) (show g < _ by omega)).trans y1
            have z2 := (HB9.out.cell (p := ⟨g, 1, none⟩) (show g < _ by omega)).trans y2
            clear ha3 hb9 hpost
            go_wp2_with fail
            refine HLK.out.mono ?_
            intro e w10 hpost
            obtain ⟨Ab, nb, cb, rfl, hb1, hb2, hb3, hb10⟩ := back_form hpost
            have HL10 := Lib.hid hb3
            have HB10 := Lib.hid hb10
            have HU10 := Lib.hid ((HU9.out.below hb10).more hb10.size)
            clear hb3 hb10 hpost HLK
            go_wp2_with fail
            refine (or_nice HEF.out Au Ab nu nb cu cb _ _ w10 HU10.out HL10.out hu1 hu2 hb1 hb2 (HNE.out q) (HNL.out f pre)).mono ?_
            intro e w11 hpost
            obtain ⟨Ac, nc, cc, rfl, hc1, hc2, hc3, hb11⟩ := back_form hpost
            have HC3 := Lib.hid hc3
            have HB11 := Lib.hid (HB10.out.trans (hb11.mono HB10.out.size))
            have HA11 := Lib.hid ((HA3.out.below HB11.out).more HB11.out.size)
            have HBW11 := Lib.hid (HBW9.out.trans (HB11.out.mono HBW9.out.size))
            clear hc3 hb11 hpost
            have HU1 := Lib.hid (show upTo (fun f => ofL s f pre s.terms) (q + 1) = orP (upTo (fun f => ofL s f pre s.terms) q) (ofL s f pre s.terms) by rw [HFQ.out]; exact upTo_succ _ _)
            have HU2 := Lib.hid (show upTo (fun f => lookP s f pre) (q + 1) = orP (upTo (fun f => lookP s f pre) q) (lookP s f pre) by rw [HFQ.out]; exact upTo_succ _ _)
            go_wp2
            go_roundw
            case rel => exact ⟨q + 1, f + 1, by omega, by have := HFQ.out; omega, by go_num, ⟨_, _, _, rfl, ha1, ha2, by rw [HU1.out]; exact HA11.out⟩, ⟨_, _, _, rfl, hc1, hc2, by rw [HU2.out]; exact HC3.out⟩, HBW11.out⟩
            case measure => simp [intOf] <;> omega
      · obtain rfl : q = 5 := by omega
        obtain rfl : f = 6 := by omega
        have HPR := Lib.hid (upTo_pref HBT.out HGOOD.out HEF.out pre)
        have HLR := Lib.hid (upTo_look HBT.out HGOOD.out HEF.out pre)
        have HLP := Lib.hid (HPREF.out wr HBW.out 0 pre)
        rw [← HPR.out, HWB.out] at HLP
        go_wp2_with fail
        refine HLP.out.mono ?_
        intro e w7 hpost
        obtain ⟨Al, nl, cl, rfl, hl1, hl2, hl3, hb7⟩ := back_form hpost
        have HL3 := Lib.hid hl3
        have HV7 := Lib.hid ((HV3.out.below hb7).more hb7.size)
        have HB7 := Lib.hid hb7
        clear hl3 hb7 hpost HLP
        go_wp2_with fail
        refine (eq_nice HEF.out Al Av nl cl nv cv _ w7 HL3.out HV7.out (HNA.out 5)).mono ?_
        rintro e w8 ⟨rfl, hb8⟩
        have HB8 := Lib.hid (HB7.out.trans (hb8.mono HB7.out.size))
        have HBW8 := Lib.hid (HBW.out.trans (HB8.out.mono hsz))
        have HU8 := Lib.hid ((HU3.out.below HB8.out).more HB8.out.size)
        have z1 : w8.cell? ⟨g, 0, none⟩ = some (.slice A3 n3 c3) := (HB8.out.cell (p := ⟨g, 0, none⟩) (show g < _ by omega)).trans y1
        have z2 : w8.cell? ⟨g, 1, none⟩ = some (.slice D3 m3 d3) := (HB8.out.cell (p := ⟨g, 1, none⟩) (show g < _ by omega)).trans y2
        have HLK := Lib.hid (HLOOK.out w8 HBW8.out 0 pre)
        rw [← HLR.out, HWB.out] at HLK
        clear hb8
        go_wp2_with fail
        refine HLK.out.mono ?_
        intro e w9 hpost
        obtain ⟨Ab, nb, cb, rfl, hb1, hb2, hb3, hb9⟩ := back_form hpost
        have HL9 := Lib.hid hb3
        have HB9 := Lib.hid hb9
        have HU9 := Lib.hid ((HU8.out.below hb9).more hb9.size)
        clear hb3 hb9 hpost HLK
        go_wp2_with fail
        refine (eq_nice HEF.out Ab Au nb cb nu cu _ w9 HL9.out HU9.out (HNE.out 5)).mono ?_
        rintro e w10 ⟨rfl, hb10⟩
        have HB10 := Lib.hid (HBW8.out.trans ((HB9.out.trans (hb10.mono HB9.out.size)).mono HBW8.out.size))
        clear hb10
        go_wp2
        go_ret
        exact ⟨rfl, HB.out.trans (HB10.out.mono HB.out.size)⟩
  · have hg : (100 : Int) < (wb.size : Int) := by rw [HW.out]; omega
    go_wp2
    go_ret
    exact ⟨rfl, HB1.out⟩
end Go.Proofs.YtfinpehbpcckaaaGreatDoor
