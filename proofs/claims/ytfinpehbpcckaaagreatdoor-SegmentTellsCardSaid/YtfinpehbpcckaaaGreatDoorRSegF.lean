/- Layer 34: the reference's found, Look, Prefix (printed by gen_rfound.py). -/
import Derived.Test.YtfinpehbpcckaaaGreatDoorRSegC
import Derived.Test.YtfinpehbpcckaaaGreatDoorM15
import Derived.Test.YtfinpehbpcckaaaGreatDoorM20
namespace Go.Proofs.YtfinpehbpcckaaaGreatDoor
open Go.RowKit
set_option linter.unusedVariables false

set_option maxRecDepth 100000 in
set_option maxHeartbeats 16000000 in
theorem rseg_found (A D : Option Addr) (n c m d : Nat) (s : Seg) (field : Int) (y : List UInt8) (bg : Bool) (p : List UInt8 → Bool) (w : World) (hp : ∀ x, p x = (decide (x = y) || (bg && decide (y <+: x)))) (h : SegIn w w.heap.size A n c D m d s) (hf : SegFew s) (hy9 : y.length ≤ maxLen) :
    Calls Tryz.prog 74 #[.agg #[.slice A n c, .slice D m d], .int .i64 field, .string (ba y), .bool bg] w (PostsBack w (foundP s field p)) := by
  have HPP := Lib.hid hp
  clear hp
  have H := Lib.hid h
  have HF := Lib.hid hf
  have hn9 : n ≤ 5000 := by rw [← h.terms.len]; exact hf.terms
  have HN := Lib.hid h.terms.len
  have HOKS := Lib.hid (found_ok hf field p)
  clear h hf
  have HYS := Lib.hid (ba_size y)
  have HY9 := Lib.hid hy9
  obtain ⟨yb, hyb⟩ : ∃ yb, ba y = yb := ⟨_, rfl⟩
  have HYB := Lib.hid hyb
  rw [hyb] at HYS ⊢
  clear hyb hy9
  go_enter Tryz.func74, Tryz.ntmps74
  have hb1 : Below w.heap.size w (w.alloc (.cells #[.slice A n c, .slice D m d] 28)) := (Below.refl _ _).alloc (Nat.le_refl _) _
  have c1a : (w.alloc (.cells #[.slice A n c, .slice D m d] 28)).cell? ⟨w.heap.size, 0, none⟩ = some (.slice A n c) := by go_simp
  have hz1 : (w.alloc (.cells #[.slice A n c, .slice D m d] 28)).heap.size = w.heap.size + 1 := by simp
  have HR := Lib.hid (rseg_right A D n c m d s (w.alloc (.cells #[.slice A n c, .slice D m d] 28)) ((H.out.below hb1).more hb1.size) HF.out)
  go_wp2_with fail
  refine HR.out.mono ?_
  rintro e w1 ⟨rfl, hbr⟩
  have hb2 : Below w.heap.size w w1 := hb1.trans (hbr.mono (by omega))
  have c2a : w1.cell? ⟨w.heap.size, 0, none⟩ = some (.slice A n c) := (hbr.cell (p := ⟨w.heap.size, 0, none⟩) (by show w.heap.size < _; omega)).trans c1a
  have hz2 : w.heap.size + 1 ≤ w1.heap.size := by have := hbr.size; omega
  have HB2 := Lib.hid hb2
  obtain ⟨rt, hrt⟩ : ∃ rt, rightP s = rt := ⟨_, rfl⟩
  have HRT := Lib.hid hrt
  rw [hrt]
  obtain ⟨g, hg⟩ : ∃ g, w.heap.size = g := ⟨_, rfl⟩
  rw [hg] at c2a hz2
  have HG := Lib.hid hg
  clear hb1 c1a hz1 hbr hb2 hrt HR
  cases rt
  · have HFP := Lib.hid (show foundP s field p = [] by unfold foundP; rw [HRT.out]; rfl)
    go_wp2
    go_ret
    exact ⟨.slice none 0 0, [], rfl, OwnPosts.nil_ _ _, by rw [HFP.out]; rfl, HB2.out⟩
  have HFP := Lib.hid (show foundP s field p = foundL s.terms field p by unfold foundP; rw [HRT.out]; rfl)
  go_wp2
  go_loopw [9, 10] (fun v i wr => ∃ k : Nat, k ≤ n ∧ i = .int .i64 (k : Int) ∧ Hid (FRel w1 s field p k v wr)) (fun _ i _ => n - (intOf i).toNat)
  case atStart => exact ⟨0, Nat.zero_le _, rfl, [], OwnPosts.nil_ _ _, rfl, Below.refl _ _⟩
  case round =>
    obtain ⟨k, hk, rfl, HR⟩ := hrel
    obtain ⟨ps, hown, hps, hbw⟩ := HR.out
    have hsz := hbw.size
    have x0 : wr.cell? ⟨g, 0, none⟩ = some (.slice A n c) := (hbw.cell (p := ⟨g, 0, none⟩) (by show g < _; omega)).trans c2a
    by_cases hlt : k < n
    · have hk2 : (k : Int) < n := by omega
      have HBA0 := Lib.hid (HB2.out.trans (hbw.mono (by have := HG.out; omega)))
      obtain ⟨ad, rfl, hbl, c0, c1, c2, hbd⟩ := (H.out.terms.below HBA0.out).at_ hlt
      have hkn : k < s.terms.length := by rw [HN.out]; exact hlt
      have hfew := HF.out.at_ hkn
      have htk := found_take (s := s) (field := field) (p := p) hkn
      have hok := HOKS.out k (Nat.le_of_lt hkn)
      obtain ⟨t, htt⟩ : ∃ t, ti s.terms k = t := ⟨_, rfl⟩
      rw [htt] at c0 c1 c2 hbd hfew htk
      obtain ⟨f, x, l⟩ := t
      dsimp only at c0 c1 c2 hbd hfew htk
      have hl9 := hfew.2
      have hpl := OwnPosts.lens (w := wr) (B := 0) (v := .pointer none) hps hok
      have HTK := Lib.hid htk
      have HOK := Lib.hid hok
      have HPS := Lib.hid hps
      have HBW := Lib.hid hbw
      have HOWN := Lib.hid hown
      have HXS := Lib.hid (ba_size x)
      have hx9 := hfew.1
      clear hkn hfew htk htt hok hps hbw HR
      obtain ⟨xb, hxb⟩ : ∃ xb, ba x = xb := ⟨_, rfl⟩
      have HXB := Lib.hid hxb
      rw [hxb] at c1 HXS
      clear hxb
      have HWB : Hid (Below wr.heap.size wr (wr.alloc (.cells #[.int .i64 f, .string xb, .string (ba l)] 47))) := Lib.hid ((Below.refl _ _).alloc (Nat.le_refl _) _)
      have hws : (wr.alloc (.cells #[.int .i64 f, .string xb, .string (ba l)] 47)).heap.size = wr.heap.size + 1 := by simp
      have b0 : (wr.alloc (.cells #[.int .i64 f, .string xb, .string (ba l)] 47)).cell? ⟨wr.heap.size, 0, none⟩ = some (.int .i64 f) := by go_simp
      have b1 : (wr.alloc (.cells #[.int .i64 f, .string xb, .string (ba l)] 47)).cell? ⟨wr.heap.size, 1, none⟩ = some (.string xb) := by go_simp
      have b2 : (wr.alloc (.cells #[.int .i64 f, .string xb, .string (ba l)] 47)).cell? ⟨wr.heap.size, 2, none⟩ = some (.string (ba l)) := by go_simp
      have HBA := Lib.hid (HBA0.out.trans (HWB.out.mono HBA0.out.size))
      have hws2 := HBA0.out.size
      have HBWA := Lib.hid (HBW.out.trans (HWB.out.mono hsz))
      have HOWNA := Lib.hid (HOWN.out.below HWB.out)
      obtain ⟨A2, cp2, rfl, hc1, hc2, -⟩ := hown.posts
      clear hown
      by_cases hxy : x = y
      · have HPT := Lib.hid (show p x = true by rw [HPP.out, decide_eq_true hxy, Bool.true_or])
        have hxe : (xb.toList == yb.toList) = true := by rw [← HXB.out, ← HYB.out, hxy]; simp
        clear hxy
        by_cases g0 : field = 0
        · have e0 : (field == 0) = true := by simpa using g0
          have HFL := Lib.hid (show (field = 0 ∨ field = f) from .inl g0)
          clear g0
          have HNX := Lib.hid (show foundL (s.terms.take (k + 1)) field p = orP (foundL (s.terms.take k) field p) ((postDec l).getD []) by rw [HTK.out, if_pos ⟨HFL.out, HPT.out⟩])
          go_wp2_with fail
          refine (rdecode_any l _ (by omega)).mono ?_
          rintro e w3 hdec
          obtain ⟨A9, n9, c9, q, ok, rfl, hP, hb3, hn3, hnc3, hc3, -, hq, -⟩ := dec_form (docs := []) (by omega) hdec
          have hdf := dec_fine (l := l) hl9
          rw [hq] at hdf
          have HB3 := Lib.hid (HBWA.out.trans (hb3.mono HBWA.out.size))
          have HOWN3 := Lib.hid (HOWNA.out.below hb3)
          obtain ⟨A5, cp5, hv5, h51, h52, hP5⟩ := HOWN3.out.posts
          injection hv5 with hv51 hv52 hv53
          subst hv51; subst hv53
          rw [HPS.out] at hP5
          have HOKK := HOK.out
          have hor := ror_any A2 A9 ps.length n9 cp2 c9 (foundL (s.terms.take k) field p) q w3 hP5 hP (by have := HOKK.len; have := hdf.2.1; have h7 := hP.len; have h8 := hP5.len; have := Nat.mul_le_mul_left 50000 (show k ≤ 4999 by omega); omega) (fun z hz => by have := HOKK.places z hz; have := Nat.mul_le_mul_left 50000 (show k ≤ 4999 by omega); omega) (fun z hz => by have := hdf.2.2 z hz; omega)
          rw [rOr_eq HOKK.fine hdf.1] at hor
          have HOR := Lib.hid hor
          have HQ := Lib.hid hq
          clear hor hq hdf hP5 hP hdec hb3 HOKK
          cases ok <;> (
            go_wp2_with fail
            refine HOR.out.mono ?_
            rintro e w4 ⟨v4, ps4, rfl, hown4, hps4, hb4⟩
            have HF4 := Lib.hid (And.intro hown4 (And.intro hps4 hb4))
            clear hown4 hps4 hb4
            go_wp2
            go_roundw
            case rel => exact ⟨k + 1, by omega, by go_num, ps4, HF4.out.1.more HB3.out.size, by rw [HNX.out, HF4.out.2.1, HQ.out], HB3.out.trans (HF4.out.2.2.mono HB3.out.size)⟩
            case measure => simp [intOf] <;> omega)
        · have e0 : (field == 0) = false := by simpa using g0
          by_cases g1 : f = field
          · have e1 : (f == field) = true := by simpa using g1
            have HFL := Lib.hid (show (field = 0 ∨ field = f) from .inr g1.symm)
            clear g0 g1
            have HNX := Lib.hid (show foundL (s.terms.take (k + 1)) field p = orP (foundL (s.terms.take k) field p) ((postDec l).getD []) by rw [HTK.out, if_pos ⟨HFL.out, HPT.out⟩])
            go_wp2_with fail
            refine (rdecode_any l _ (by omega)).mono ?_
            rintro e w3 hdec
            obtain ⟨A9, n9, c9, q, ok, rfl, hP, hb3, hn3, hnc3, hc3, -, hq, -⟩ := dec_form (docs := []) (by omega) hdec
            have hdf := dec_fine (l := l) hl9
            rw [hq] at hdf
            have HB3 := Lib.hid (HBWA.out.trans (hb3.mono HBWA.out.size))
            have HOWN3 := Lib.hid (HOWNA.out.below hb3)
            obtain ⟨A5, cp5, hv5, h51, h52, hP5⟩ := HOWN3.out.posts
            injection hv5 with hv51 hv52 hv53
            subst hv51; subst hv53
            rw [HPS.out] at hP5
            have HOKK := HOK.out
            have hor := ror_any A2 A9 ps.length n9 cp2 c9 (foundL (s.terms.take k) field p) q w3 hP5 hP (by have := HOKK.len; have := hdf.2.1; have h7 := hP.len; have h8 := hP5.len; have := Nat.mul_le_mul_left 50000 (show k ≤ 4999 by omega); omega) (fun z hz => by have := HOKK.places z hz; have := Nat.mul_le_mul_left 50000 (show k ≤ 4999 by omega); omega) (fun z hz => by have := hdf.2.2 z hz; omega)
            rw [rOr_eq HOKK.fine hdf.1] at hor
            have HOR := Lib.hid hor
            have HQ := Lib.hid hq
            clear hor hq hdf hP5 hP hdec hb3 HOKK
            cases ok <;> (
              go_wp2_with fail
              refine HOR.out.mono ?_
              rintro e w4 ⟨v4, ps4, rfl, hown4, hps4, hb4⟩
              have HF4 := Lib.hid (And.intro hown4 (And.intro hps4 hb4))
              clear hown4 hps4 hb4
              go_wp2
              go_roundw
              case rel => exact ⟨k + 1, by omega, by go_num, ps4, HF4.out.1.more HB3.out.size, by rw [HNX.out, HF4.out.2.1, HQ.out], HB3.out.trans (HF4.out.2.2.mono HB3.out.size)⟩
              case measure => simp [intOf] <;> omega)
          · have e1 : (f == field) = false := by simpa using g1
            have HNX := Lib.hid (show foundL (s.terms.take (k + 1)) field p = foundL (s.terms.take k) field p by rw [HTK.out, if_neg]; rintro ⟨h | h, _⟩; exact g0 h; exact g1 h.symm)
            clear g0 g1
            go_wp2
            go_roundw
            case rel => exact ⟨k + 1, by omega, by go_num, ps, HOWNA.out, by rw [HNX.out]; exact HPS.out, HBWA.out⟩
            case measure => simp [intOf] <;> omega
      · have hxe : (xb.toList == yb.toList) = false := by rw [← HXB.out, ← HYB.out, ba_toList, ba_toList]; simpa using hxy
        cases bg
        · have HPT := Lib.hid (show p x = false by rw [HPP.out, decide_eq_false hxy]; rfl)
          clear hxy
          have HNX := Lib.hid (show foundL (s.terms.take (k + 1)) field p = foundL (s.terms.take k) field p by rw [HTK.out, if_neg]; rintro ⟨_, h⟩; rw [HPT.out] at h; cases h)
          go_wp2
          go_roundw
          case rel => exact ⟨k + 1, by omega, by go_num, ps, HOWNA.out, by rw [HNX.out]; exact HPS.out, HBWA.out⟩
          case measure => simp [intOf] <;> omega
        · have hpx := HPP.out x
          rw [decide_eq_false hxy, Bool.false_or, Bool.true_and] at hpx
          by_cases hle : y.length ≤ x.length
          · have e2 : (yb.size : Int) ≤ (xb.size : Int) := by rw [HXS.out, HYS.out]; omega
            have e3 : yb.size ≤ xb.size := by omega
            have e9 : ((xb.extract 0 yb.size).toList == yb.toList) = decide (y <+: x) := by
              rw [← HXB.out, ← HYB.out, ba_size, ba_cut, ba_toList, ba_toList, List.drop_zero, Bool.eq_iff_iff, beq_iff_eq, decide_eq_true_iff]
              exact ⟨fun h => List.prefix_iff_eq_take.2 h.symm, fun h => (List.prefix_iff_eq_take.1 h).symm⟩
            obtain ⟨b, hb⟩ : ∃ b, decide (y <+: x) = b := ⟨_, rfl⟩
            rw [hb] at e9 hpx
            have HPT := Lib.hid hpx
            clear hb hpx hxy
            cases b
            · skip
              have HNX := Lib.hid (show foundL (s.terms.take (k + 1)) field p = foundL (s.terms.take k) field p by rw [HTK.out, if_neg]; rintro ⟨_, h⟩; rw [HPT.out] at h; cases h)
              go_wp2
              go_roundw
              case rel => exact ⟨k + 1, by omega, by go_num, ps, HOWNA.out, by rw [HNX.out]; exact HPS.out, HBWA.out⟩
              case measure => simp [intOf] <;> omega
            · skip
              by_cases g0 : field = 0
              · have e0 : (field == 0) = true := by simpa using g0
                have HFL := Lib.hid (show (field = 0 ∨ field = f) from .inl g0)
                clear g0
                have HNX := Lib.hid (show foundL (s.terms.take (k + 1)) field p = orP (foundL (s.terms.take k) field p) ((postDec l).getD []) by rw [HTK.out, if_pos ⟨HFL.out, HPT.out⟩])
                go_wp2_with fail
                refine (rdecode_any l _ (by omega)).mono ?_
                rintro e w3 hdec
                obtain ⟨A9, n9, c9, q, ok, rfl, hP, hb3, hn3, hnc3, hc3, -, hq, -⟩ := dec_form (docs := []) (by omega) hdec
                have hdf := dec_fine (l := l) hl9
                rw [hq] at hdf
                have HB3 := Lib.hid (HBWA.out.trans (hb3.mono HBWA.out.size))
                have HOWN3 := Lib.hid (HOWNA.out.below hb3)
                obtain ⟨A5, cp5, hv5, h51, h52, hP5⟩ := HOWN3.out.posts
                injection hv5 with hv51 hv52 hv53
                subst hv51; subst hv53
                rw [HPS.out] at hP5
                have HOKK := HOK.out
                have hor := ror_any A2 A9 ps.length n9 cp2 c9 (foundL (s.terms.take k) field p) q w3 hP5 hP (by have := HOKK.len; have := hdf.2.1; have h7 := hP.len; have h8 := hP5.len; have := Nat.mul_le_mul_left 50000 (show k ≤ 4999 by omega); omega) (fun z hz => by have := HOKK.places z hz; have := Nat.mul_le_mul_left 50000 (show k ≤ 4999 by omega); omega) (fun z hz => by have := hdf.2.2 z hz; omega)
                rw [rOr_eq HOKK.fine hdf.1] at hor
                have HOR := Lib.hid hor
                have HQ := Lib.hid hq
                clear hor hq hdf hP5 hP hdec hb3 HOKK
                cases ok <;> (
                  go_wp2_with fail
                  refine HOR.out.mono ?_
                  rintro e w4 ⟨v4, ps4, rfl, hown4, hps4, hb4⟩
                  have HF4 := Lib.hid (And.intro hown4 (And.intro hps4 hb4))
                  clear hown4 hps4 hb4
                  go_wp2
                  go_roundw
                  case rel => exact ⟨k + 1, by omega, by go_num, ps4, HF4.out.1.more HB3.out.size, by rw [HNX.out, HF4.out.2.1, HQ.out], HB3.out.trans (HF4.out.2.2.mono HB3.out.size)⟩
                  case measure => simp [intOf] <;> omega)
              · have e0 : (field == 0) = false := by simpa using g0
                by_cases g1 : f = field
                · have e1 : (f == field) = true := by simpa using g1
                  have HFL := Lib.hid (show (field = 0 ∨ field = f) from .inr g1.symm)
                  clear g0 g1
                  have HNX := Lib.hid (show foundL (s.terms.take (k + 1)) field p = orP (foundL (s.terms.take k) field p) ((postDec l).getD []) by rw [HTK.out, if_pos ⟨HFL.out, HPT.out⟩])
                  go_wp2_with fail
                  refine (rdecode_any l _ (by omega)).mono ?_
                  rintro e w3 hdec
                  obtain ⟨A9, n9, c9, q, ok, rfl, hP, hb3, hn3, hnc3, hc3, -, hq, -⟩ := dec_form (docs := []) (by omega) hdec
                  have hdf := dec_fine (l := l) hl9
                  rw [hq] at hdf
                  have HB3 := Lib.hid (HBWA.out.trans (hb3.mono HBWA.out.size))
                  have HOWN3 := Lib.hid (HOWNA.out.below hb3)
                  obtain ⟨A5, cp5, hv5, h51, h52, hP5⟩ := HOWN3.out.posts
                  injection hv5 with hv51 hv52 hv53
                  subst hv51; subst hv53
                  rw [HPS.out] at hP5
                  have HOKK := HOK.out
                  have hor := ror_any A2 A9 ps.length n9 cp2 c9 (foundL (s.terms.take k) field p) q w3 hP5 hP (by have := HOKK.len; have := hdf.2.1; have h7 := hP.len; have h8 := hP5.len; have := Nat.mul_le_mul_left 50000 (show k ≤ 4999 by omega); omega) (fun z hz => by have := HOKK.places z hz; have := Nat.mul_le_mul_left 50000 (show k ≤ 4999 by omega); omega) (fun z hz => by have := hdf.2.2 z hz; omega)
                  rw [rOr_eq HOKK.fine hdf.1] at hor
                  have HOR := Lib.hid hor
                  have HQ := Lib.hid hq
                  clear hor hq hdf hP5 hP hdec hb3 HOKK
                  cases ok <;> (
                    go_wp2_with fail
                    refine HOR.out.mono ?_
                    rintro e w4 ⟨v4, ps4, rfl, hown4, hps4, hb4⟩
                    have HF4 := Lib.hid (And.intro hown4 (And.intro hps4 hb4))
                    clear hown4 hps4 hb4
                    go_wp2
                    go_roundw
                    case rel => exact ⟨k + 1, by omega, by go_num, ps4, HF4.out.1.more HB3.out.size, by rw [HNX.out, HF4.out.2.1, HQ.out], HB3.out.trans (HF4.out.2.2.mono HB3.out.size)⟩
                    case measure => simp [intOf] <;> omega)
                · have e1 : (f == field) = false := by simpa using g1
                  have HNX := Lib.hid (show foundL (s.terms.take (k + 1)) field p = foundL (s.terms.take k) field p by rw [HTK.out, if_neg]; rintro ⟨h | h, _⟩; exact g0 h; exact g1 h.symm)
                  clear g0 g1
                  go_wp2
                  go_roundw
                  case rel => exact ⟨k + 1, by omega, by go_num, ps, HOWNA.out, by rw [HNX.out]; exact HPS.out, HBWA.out⟩
                  case measure => simp [intOf] <;> omega
          · have e2 : ¬ (yb.size : Int) ≤ (xb.size : Int) := by rw [HXS.out, HYS.out]; omega
            have HPT := Lib.hid (show p x = false by rw [hpx]; exact decide_eq_false fun h => hle h.length_le)
            clear hpx hxy
            have HNX := Lib.hid (show foundL (s.terms.take (k + 1)) field p = foundL (s.terms.take k) field p by rw [HTK.out, if_neg]; rintro ⟨_, h⟩; rw [HPT.out] at h; cases h)
            go_wp2
            go_roundw
            case rel => exact ⟨k + 1, by omega, by go_num, ps, HOWNA.out, by rw [HNX.out]; exact HPS.out, HBWA.out⟩
            case measure => simp [intOf] <;> omega
    · obtain rfl : k = n := by omega
      have HFIN := Lib.hid (show ps.map (·.1) = foundP s field p by rw [HFP.out, hps, List.take_of_length_le (by rw [HN.out]; exact Nat.le_refl _)])
      obtain ⟨A2, cp2, rfl, hc1, hc2, -⟩ := hown.posts
      have HOWN := Lib.hid hown
      have HBF := Lib.hid (HB2.out.trans (hbw.mono (by have := HG.out; omega)))
      clear hown hps hbw HR
      go_wp2
      go_ret
      exact ⟨_, ps, rfl, HOWN.out.more (by have := HG.out; omega), HFIN.out, HBF.out⟩

set_option maxRecDepth 100000 in
theorem rseg_look (A D : Option Addr) (n c m d : Nat) (s : Seg) (field : Int) (y : List UInt8) (w : World) (h : SegIn w w.heap.size A n c D m d s) (hf : SegFew s) (hy9 : y.length ≤ maxLen) :
    Calls Tryz.prog 24 #[.agg #[.slice A n c, .slice D m d], .int .i64 field, .string (ba y)] w (PostsBack w (lookP s field y)) := by
  have hb : Below w.heap.size w (w.alloc (.cells #[.slice A n c, .slice D m d] 28)) := (Below.refl _ _).alloc (Nat.le_refl _) _
  have HC := Lib.hid (rseg_found A D n c m d s field y false (fun x => decide (x = y)) (w.alloc (.cells #[.slice A n c, .slice D m d] 28)) (fun x => by simp) ((h.below hb).more hb.size) hf hy9)
  have HB := Lib.hid hb
  clear h hf hb
  go_enter Tryz.func24, Tryz.ntmps24
  go_wp2_with fail
  refine HC.out.mono ?_
  rintro e w1 ⟨v, ps, rfl, hown, hps, hb⟩
  have HF := Lib.hid (And.intro hown (And.intro hps hb))
  obtain ⟨A2, cp2, rfl, -, -, -⟩ := hown.posts
  clear hown hps hb
  go_wp2
  go_ret
  exact ⟨_, ps, rfl, HF.out.1.more HB.out.size, HF.out.2.1, HB.out.trans (HF.out.2.2.mono HB.out.size)⟩

set_option maxRecDepth 100000 in
theorem rseg_pref (A D : Option Addr) (n c m d : Nat) (s : Seg) (field : Int) (y : List UInt8) (w : World) (h : SegIn w w.heap.size A n c D m d s) (hf : SegFew s) (hy9 : y.length ≤ maxLen) :
    Calls Tryz.prog 26 #[.agg #[.slice A n c, .slice D m d], .int .i64 field, .string (ba y)] w (PostsBack w (prefP s field y)) := by
  have hb : Below w.heap.size w (w.alloc (.cells #[.slice A n c, .slice D m d] 28)) := (Below.refl _ _).alloc (Nat.le_refl _) _
  have HC := Lib.hid (rseg_found A D n c m d s field y true (fun x => decide (y <+: x)) (w.alloc (.cells #[.slice A n c, .slice D m d] 28)) (fun x => by
      by_cases h : x = y
      · subst h; simp
      · simp [h]) ((h.below hb).more hb.size) hf hy9)
  have HB := Lib.hid hb
  clear h hf hb
  go_enter Tryz.func26, Tryz.ntmps26
  go_wp2_with fail
  refine HC.out.mono ?_
  rintro e w1 ⟨v, ps, rfl, hown, hps, hb⟩
  have HF := Lib.hid (And.intro hown (And.intro hps hb))
  obtain ⟨A2, cp2, rfl, -, -, -⟩ := hown.posts
  clear hown hps hb
  go_wp2
  go_ret
  exact ⟨_, ps, rfl, HF.out.1.more HB.out.size, HF.out.2.1, HB.out.trans (HF.out.2.2.mono HB.out.size)⟩
end Go.Proofs.YtfinpehbpcckaaaGreatDoor
