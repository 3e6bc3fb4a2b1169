/- SegmentTells: the law returns true (printed by gen_tells34.py). -/
import Derived.Test.YtfinpehbpcckaaaGreatDoorTellsP
import Derived.Test.YtfinpehbpcckaaaGreatDoorSmall
import Derived.Deep.RegionHeld3
import Derived.Deep.DrawnRows
namespace Go.Proofs.YtfinpehbpcckaaaGreatDoor
open Go.RowKit
set_option linter.unusedVariables false
attribute [local go_sem ↓] Go.wp_at_zero Go.wp_at_succ

theorem bool_ne (b : Bool) : (b != b) = false := by cases b <;> rfl
set_option maxRecDepth 100000 in
set_option maxHeartbeats 16000000 in
theorem tells34_any (A D : Option Addr) (n c m d : Nat) (s : Seg) (field : Int) (word b : List UInt8) (w : World) (h : SegIn w w.heap.size A n c D m d s) (hw : word.length ≤ maxLen) (hb : b.length ≤ maxLen) (ht : Tables w) :
    Calls Tryz.prog 4 #[.agg #[.slice A n c, .slice D m d], .int .i64 field, .string (ba word), .string (ba b)] w fun e w' => e = .returned (.bool true) ∧ Below w.heap.size w w' := by
  have H := Lib.hid h
  have HT := Lib.hid ht
  have HW := Lib.hid (ba_size word)
  have HBS := Lib.hid (ba_size b)
  have HWM := Lib.hid hw
  clear h ht hw hb
  obtain ⟨wb, hwb⟩ : ∃ wb, ba word = wb := ⟨_, rfl⟩
  obtain ⟨bb, hbb⟩ : ∃ bb, ba b = bb := ⟨_, rfl⟩
  have HWB := Lib.hid hwb
  have HBB := Lib.hid hbb
  rw [hwb] at HW ⊢
  rw [hbb] at HBS ⊢
  clear hwb hbb
  go_enter Tryz.func4, Tryz.ntmps4
  have hb1 : Below w.heap.size w (w.alloc (.cells #[.slice A n c, .slice D m d] 28)) := (Below.refl _ _).alloc (Nat.le_refl _) _
  have c1a : (w.alloc (.cells #[.slice A n c, .slice D m d] 28)).cell? ⟨w.heap.size, 0, none⟩ = some (.slice A n c) := by go_simp
  have c1b : (w.alloc (.cells #[.slice A n c, .slice D m d] 28)).cell? ⟨w.heap.size, 1, none⟩ = some (.slice D m d) := by go_simp
  have hz1 : (w.alloc (.cells #[.slice A n c, .slice D m d] 28)).heap.size = w.heap.size + 1 := by simp
  have HB1 := Lib.hid hb1
  go_wp2_with fail
  refine (small_any _ (HT.out.below hb1)).mono ?_
  rintro e w1 ⟨rfl, hs1⟩
  have HB2 := Lib.hid (HB1.out.trans (hs1.mono HB1.out.size))
  have g1a : w1.cell? ⟨w.heap.size, 0, none⟩ = some (.slice A n c) := (hs1.cell (p := ⟨w.heap.size, 0, none⟩) (by show w.heap.size < _; omega)).trans c1a
  have g1b : w1.cell? ⟨w.heap.size, 1, none⟩ = some (.slice D m d) := (hs1.cell (p := ⟨w.heap.size, 1, none⟩) (by show w.heap.size < _; omega)).trans c1b
  have hgw1 : w.heap.size < w1.heap.size := by have := hs1.size; omega
  have HSZ := Lib.hid HB2.out.size
  obtain ⟨g, hg⟩ : ∃ g, w.heap.size = g := ⟨_, rfl⟩
  rw [hg] at g1a g1b hgw1 ⊢
  have HGG := Lib.hid hg
  clear hb1 c1a c1b hz1 hs1 hg
  go_wp2_with fail
  refine (short_any A D n c m d s w1 ((H.out.below HB2.out).more HB2.out.size)).mono ?_
  rintro e w2 ⟨sb, rfl, hsb, hbs⟩
  have HB3 := Lib.hid (HB2.out.trans (hbs.mono HB2.out.size))
  have g2a : w2.cell? ⟨g, 0, none⟩ = some (.slice A n c) := (hbs.cell (p := ⟨g, 0, none⟩) hgw1).trans g1a
  have g2b : w2.cell? ⟨g, 1, none⟩ = some (.slice D m d) := (hbs.cell (p := ⟨g, 1, none⟩) hgw1).trans g1b
  have hgw2 : g < w2.heap.size := by have := hbs.size; omega
  have HSB := Lib.hid hsb
  clear hbs g1a g1b hgw1 hsb
  cases sb
  · go_wp2
    go_ret
    exact ⟨rfl, HB3.out⟩
  have HSH := Lib.hid (HSB.out rfl)
  by_cases hlw : word.length ≤ 100
  · have hg1 : ¬ (100 : Int) < (wb.size : Int) := by rw [HW.out]; omega
    by_cases hlb : b.length ≤ 600
    · have hg2 : ¬ (600 : Int) < (bb.size : Int) := by rw [HBS.out]; omega
      have HFEW := Lib.hid HSH.out.few
      have HRF := Lib.hid (raw_few b (by omega))
      have HR1 := Lib.hid (fun W (hW : Below w.heap.size w W) => seg_read b W (by omega) HRF.out (HT.out.below hW))
      have HR2 := Lib.hid (fun W => rseg_read b W (by omega) HRF.out)
      rw [HBB.out] at HR1 HR2
      go_wp2_with fail
      refine (HR1.out w2 HB3.out).mono ?_
      rintro e w3 ⟨hb3, Ax, nx, cx, Dx, mx, dx, rfl, hx⟩
      have HB4 := Lib.hid (HB3.out.trans (hb3.mono HB3.out.size))
      have g3a : w3.cell? ⟨g, 0, none⟩ = some (.slice A n c) := (hb3.cell (p := ⟨g, 0, none⟩) hgw2).trans g2a
      have g3b : w3.cell? ⟨g, 1, none⟩ = some (.slice D m d) := (hb3.cell (p := ⟨g, 1, none⟩) hgw2).trans g2b
      have hgw3 : g < w3.heap.size := by have := hb3.size; omega
      have HX := Lib.hid hx
      have HMX := Lib.hid hx.docs.len
      obtain ⟨x, hxe⟩ : ∃ x, (readP b).getD Seg.none_ = x := ⟨_, rfl⟩
      obtain ⟨ok, hok⟩ : ∃ q, (readP b).isSome = q := ⟨_, rfl⟩
      have HXF := Lib.hid (show SegFew x by
        rw [← hxe]
        unfold readP
        split
        · exact HRF.out
        · exact ⟨by simp [Seg.none_], by simp [Seg.none_], fun t ht => by cases ht⟩)
      have HXE := Lib.hid hxe
      have HOK := Lib.hid hok
      rw [hxe] at HX HMX
      rw [hok]
      clear hb3 hx hxe hok g2a g2b hgw2
      -- the box of x
      have hbx : Below w3.heap.size w3 (w3.alloc (.cells #[.slice Ax nx cx, .slice Dx mx dx] 28)) := (Below.refl _ _).alloc (Nat.le_refl _) _
      have x3a : (w3.alloc (.cells #[.slice Ax nx cx, .slice Dx mx dx] 28)).cell? ⟨w3.heap.size, 0, none⟩ = some (.slice Ax nx cx) := by go_simp
      have x3b : (w3.alloc (.cells #[.slice Ax nx cx, .slice Dx mx dx] 28)).cell? ⟨w3.heap.size, 1, none⟩ = some (.slice Dx mx dx) := by go_simp
      have hzx : (w3.alloc (.cells #[.slice Ax nx cx, .slice Dx mx dx] 28)).heap.size = w3.heap.size + 1 := by simp
      go_wp2_with fail
      refine (HR2.out _).mono ?_
      rintro e w4 ⟨hb4, Ay, ny, cy, Dy, my, dy, rfl, hy⟩
      have HB5 := Lib.hid (HB4.out.trans ((hbx.trans (hb4.mono hbx.size)).mono HB4.out.size))
      have hb34 := hbx.trans (hb4.mono hbx.size)
      have g4a : w4.cell? ⟨g, 0, none⟩ = some (.slice A n c) := (hb34.cell (p := ⟨g, 0, none⟩) hgw3).trans g3a
      have g4b : w4.cell? ⟨g, 1, none⟩ = some (.slice D m d) := (hb34.cell (p := ⟨g, 1, none⟩) hgw3).trans g3b
      have x4a : w4.cell? ⟨w3.heap.size, 0, none⟩ = some (.slice Ax nx cx) := (hb4.cell (p := ⟨w3.heap.size, 0, none⟩) (by show w3.heap.size < _; omega)).trans x3a
      have x4b : w4.cell? ⟨w3.heap.size, 1, none⟩ = some (.slice Dx mx dx) := (hb4.cell (p := ⟨w3.heap.size, 1, none⟩) (by show w3.heap.size < _; omega)).trans x3b
      have hgw4 : w3.heap.size < w4.heap.size := by have := hb4.size; omega
      have HX4 := Lib.hid ((HX.out.below hb34).more hb34.size)
      have HY := Lib.hid hy
      rw [HXE.out] at HY
      rw [HOK.out]
      clear hb4 hy hbx x3a x3b hzx hb34 g3a g3b
      have hbo : (ok != ok) = false := bool_ne ok
      have hby : Below w4.heap.size w4 (w4.alloc (.cells #[.slice Ay ny cy, .slice Dy my dy] 28)) := (Below.refl _ _).alloc (Nat.le_refl _) _
      have y5a : (w4.alloc (.cells #[.slice Ay ny cy, .slice Dy my dy] 28)).cell? ⟨w4.heap.size, 0, none⟩ = some (.slice Ay ny cy) := by go_simp
      have y5b : (w4.alloc (.cells #[.slice Ay ny cy, .slice Dy my dy] 28)).cell? ⟨w4.heap.size, 1, none⟩ = some (.slice Dy my dy) := by go_simp
      have x5a : (w4.alloc (.cells #[.slice Ay ny cy, .slice Dy my dy] 28)).cell? ⟨w3.heap.size, 0, none⟩ = some (.slice Ax nx cx) := (hby.cell (p := ⟨w3.heap.size, 0, none⟩) hgw4).trans x4a
      have x5b : (w4.alloc (.cells #[.slice Ay ny cy, .slice Dy my dy] 28)).cell? ⟨w3.heap.size, 1, none⟩ = some (.slice Dx mx dx) := (hby.cell (p := ⟨w3.heap.size, 1, none⟩) hgw4).trans x4b
      have hg34 : g < w4.heap.size := by omega
      have g5a : (w4.alloc (.cells #[.slice Ay ny cy, .slice Dy my dy] 28)).cell? ⟨g, 0, none⟩ = some (.slice A n c) := (hby.cell (p := ⟨g, 0, none⟩) hg34).trans g4a
      have g5b : (w4.alloc (.cells #[.slice Ay ny cy, .slice Dy my dy] 28)).cell? ⟨g, 1, none⟩ = some (.slice D m d) := (hby.cell (p := ⟨g, 1, none⟩) hg34).trans g4b
      have hzy : (w4.alloc (.cells #[.slice Ay ny cy, .slice Dy my dy] 28)).heap.size = w4.heap.size + 1 := by simp
      have HB6 := Lib.hid (HB5.out.trans (hby.mono HB5.out.size))
      have HSM := Lib.hid (rseg_same Ax Dx Ay Dy nx cx mx dx ny cy my dy x _ ((HX4.out.below hby).more hby.size) ((HY.out.below hby).more hby.size) (by have h1 := HMX.out; have h2 := HXF.out.docs; omega))
      clear g4a g4b x4a x4b
      go_wp2_with fail
      refine HSM.out.mono ?_
      rintro e w5 ⟨rfl, hb5⟩
      have HB7 := Lib.hid (HB6.out.trans (hb5.mono HB6.out.size))
      have g6a : w5.cell? ⟨g, 0, none⟩ = some (.slice A n c) := (hb5.cell (p := ⟨g, 0, none⟩) (by show g < _; omega)).trans g5a
      have g6b : w5.cell? ⟨g, 1, none⟩ = some (.slice D m d) := (hb5.cell (p := ⟨g, 1, none⟩) (by show g < _; omega)).trans g5b
      have hg5 : g < w5.heap.size := by have := hb5.size; omega
      clear hb5 hby y5a y5b x5a x5b g5a g5b HSM
      go_wp2_with fail
      refine (seg_same A D A D n c m d n c m d s s w5 ((H.out.below HB7.out).more HB7.out.size) ((H.out.below HB7.out).more HB7.out.size)).mono ?_
      rintro e W ⟨rfl, hb6⟩
      rw [show decide (s = s) = true by simp]
      have HB8 := Lib.hid (HB7.out.trans (hb6.mono HB7.out.size))
      have g0 : W.cell? ⟨g, 0, none⟩ = some (.slice A n c) := (hb6.cell (p := ⟨g, 0, none⟩) hg5).trans g6a
      have g1 : W.cell? ⟨g, 1, none⟩ = some (.slice D m d) := (hb6.cell (p := ⟨g, 1, none⟩) hg5).trans g6b
      have hgW : g < W.heap.size := by have := hb6.size; omega
      have HSEG := Lib.hid (fun W' (hW : Below W.heap.size W W') => (H.out.below (HB8.out.trans (hW.mono HB8.out.size))).more (HB8.out.trans (hW.mono HB8.out.size)).size)
      have HTW := Lib.hid (fun W' (hW : Below W.heap.size W W') => HT.out.below (HB8.out.trans (hW.mono HB8.out.size)))
      clear hb6 g6a g6b hg5 hzy hgw3 hgw4 hg34
      have HSR := Lib.hid (fun W' hW => seg_right A D n c m d s W' (HSEG.out W' hW) HFEW.out (HTW.out W' hW))
      have HRR := Lib.hid (fun W' hW => rseg_right A D n c m d s W' (HSEG.out W' hW) HFEW.out)
      have HSB := Lib.hid (fun W' hW => seg_bytes A D n c m d s W' (HSEG.out W' hW) HFEW.out (HTW.out W' hW))
      have HRB := Lib.hid (fun W' hW => rseg_bytes A D n c m d s W' (HSEG.out W' hW) HFEW.out)
      have HSL := Lib.hid (fun W' hW => seg_look A D n c m d s field word W' (HSEG.out W' hW) HFEW.out (HTW.out W' hW))
      have HRL := Lib.hid (fun W' hW => rseg_look A D n c m d s field word W' (HSEG.out W' hW) HFEW.out HWM.out)
      have HSP := Lib.hid (fun W' hW => seg_pref A D n c m d s field word W' (HSEG.out W' hW) HFEW.out (HTW.out W' hW))
      have HRP := Lib.hid (fun W' hW => rseg_pref A D n c m d s field word W' (HSEG.out W' hW) HFEW.out HWM.out)
      rw [HWB.out] at HSL HRL HSP HRP
      have HFL := Lib.hid (show (lookP s field word).length ≤ 1000000 ∧ ∀ q, q ∈ lookP s field word → q.places.length ≤ 1000000 from found_all HSH.out field _)
      have HFP := Lib.hid (show (prefP s field word).length ≤ 1000000 ∧ ∀ q, q ∈ prefP s field word → q.places.length ≤ 1000000 from found_all HSH.out field _)
      unfold StrPost at HSB HRB
      obtain ⟨rt, hrt⟩ : ∃ q, rightP s = q := ⟨_, rfl⟩
      simp only [hrt] at HSR HRR
      obtain ⟨by_, hby⟩ : ∃ q, ba (bytesP s) = q := ⟨_, rfl⟩
      simp only [hby] at HSB HRB
      clear hrt hby
      have e1 : (rt == rt) = true := by simp
      have e2 : (by_.toList == by_.toList) = true := by simp
      go_wp2
      go_region_held3 (fun w' => w'.cell? ⟨g, 0, none⟩ = some (.slice A n c) ∧ w'.cell? ⟨g, 1, none⟩ = some (.slice D m d))
        (first | (go_split_ands; refine ⟨?_, ?_⟩ <;> first | assumption | go_keep))
        (first
          | (go_simp; go_at_call 20; refine (HSR.out _ (show Below W.heap.size W W.drew from (Below.refl _ _).drew)).mono ?_; rintro e v1 ⟨rfl, hb⟩; (
              have HV1 := Lib.hid (show Below W.heap.size W v1 from (show Below W.heap.size W W.drew from (Below.refl _ _).drew).trans (hb.mono (Nat.le_refl _)))
              have p1a : v1.cell? ⟨g, 0, none⟩ = some (.slice A n c) := (HV1.out.cell (p := ⟨g, 0, none⟩) hgW).trans g0
              have p1b : v1.cell? ⟨g, 1, none⟩ = some (.slice D m d) := (HV1.out.cell (p := ⟨g, 1, none⟩) hgW).trans g1
              clear hb))
          | (go_simp; go_at_call 21; refine (HRR.out v1 HV1.out).mono ?_; rintro e v2 ⟨rfl, hb⟩; (
              have HV2 := Lib.hid (show Below W.heap.size W v2 from HV1.out.trans (hb.mono HV1.out.size))
              have p2a : v2.cell? ⟨g, 0, none⟩ = some (.slice A n c) := (HV2.out.cell (p := ⟨g, 0, none⟩) hgW).trans g0
              have p2b : v2.cell? ⟨g, 1, none⟩ = some (.slice D m d) := (HV2.out.cell (p := ⟨g, 1, none⟩) hgW).trans g1
              clear hb))
          | (go_simp; go_at_call 14; refine (HSB.out v2 HV2.out).mono ?_; rintro e v3 ⟨rfl, hb⟩; (
              have HV3 := Lib.hid (show Below W.heap.size W v3 from HV2.out.trans (hb.mono HV2.out.size))
              have p3a : v3.cell? ⟨g, 0, none⟩ = some (.slice A n c) := (HV3.out.cell (p := ⟨g, 0, none⟩) hgW).trans g0
              have p3b : v3.cell? ⟨g, 1, none⟩ = some (.slice D m d) := (HV3.out.cell (p := ⟨g, 1, none⟩) hgW).trans g1
              clear hb))
          | (go_simp; go_at_call 15; refine (HRB.out v3 HV3.out).mono ?_; rintro e v4 ⟨rfl, hb⟩; (
              have HV4 := Lib.hid (show Below W.heap.size W v4 from HV3.out.trans (hb.mono HV3.out.size))
              have p4a : v4.cell? ⟨g, 0, none⟩ = some (.slice A n c) := (HV4.out.cell (p := ⟨g, 0, none⟩) hgW).trans g0
              have p4b : v4.cell? ⟨g, 1, none⟩ = some (.slice D m d) := (HV4.out.cell (p := ⟨g, 1, none⟩) hgW).trans g1
              clear hb))
          | (go_simp; go_at_call 23; refine (HSL.out v4 HV4.out).mono ?_; rintro e v5 hpost; (
              obtain ⟨A5, n5, c5, rfl, -, -, hp5, hb⟩ := back_form hpost
              have HP5 := Lib.hid hp5
              clear hpost hp5
              have HV5 := Lib.hid (show Below W.heap.size W v5 from HV4.out.trans (hb.mono HV4.out.size))
              have p5a : v5.cell? ⟨g, 0, none⟩ = some (.slice A n c) := (HV5.out.cell (p := ⟨g, 0, none⟩) hgW).trans g0
              have p5b : v5.cell? ⟨g, 1, none⟩ = some (.slice D m d) := (HV5.out.cell (p := ⟨g, 1, none⟩) hgW).trans g1
              clear hb))
          | (go_simp; go_at_call 24; refine (HRL.out v5 HV5.out).mono ?_; rintro e v6 hpost; (
              obtain ⟨A6, n6, c6, rfl, -, -, hp6, hb⟩ := back_form hpost
              have HP6 := Lib.hid hp6
              have HB65 := Lib.hid hb
              clear hpost hp6
              have HV6 := Lib.hid (show Below W.heap.size W v6 from HV5.out.trans (hb.mono HV5.out.size))
              have p6a : v6.cell? ⟨g, 0, none⟩ = some (.slice A n c) := (HV6.out.cell (p := ⟨g, 0, none⟩) hgW).trans g0
              have p6b : v6.cell? ⟨g, 1, none⟩ = some (.slice D m d) := (HV6.out.cell (p := ⟨g, 1, none⟩) hgW).trans g1
              clear hb))
          | (go_simp; go_at_call_of 22 (Value.slice A5 n5 c5); refine (posts_eq A5 A6 n5 c5 n6 c6 _ v6 ((HP5.out.below HB65.out).more HB65.out.size) HP6.out HFL.out.1 HFL.out.2).mono ?_; rintro e v7 ⟨rfl, hb⟩; (
              have HV7 := Lib.hid (show Below W.heap.size W v7 from HV6.out.trans (hb.mono HV6.out.size))
              have p7a : v7.cell? ⟨g, 0, none⟩ = some (.slice A n c) := (HV7.out.cell (p := ⟨g, 0, none⟩) hgW).trans g0
              have p7b : v7.cell? ⟨g, 1, none⟩ = some (.slice D m d) := (HV7.out.cell (p := ⟨g, 1, none⟩) hgW).trans g1
              clear hb))
          | (go_simp; go_at_call 25; refine (HSP.out v7 HV7.out).mono ?_; rintro e v8 hpost; (
              obtain ⟨A8, n8, c8, rfl, -, -, hp8, hb⟩ := back_form hpost
              have HP8 := Lib.hid hp8
              clear hpost hp8
              have HV8 := Lib.hid (show Below W.heap.size W v8 from HV7.out.trans (hb.mono HV7.out.size))
              have p8a : v8.cell? ⟨g, 0, none⟩ = some (.slice A n c) := (HV8.out.cell (p := ⟨g, 0, none⟩) hgW).trans g0
              have p8b : v8.cell? ⟨g, 1, none⟩ = some (.slice D m d) := (HV8.out.cell (p := ⟨g, 1, none⟩) hgW).trans g1
              clear hb))
          | (go_simp; go_at_call 26; refine (HRP.out v8 HV8.out).mono ?_; rintro e v9 hpost; (
              obtain ⟨A9, n9, c9, rfl, -, -, hp9, hb⟩ := back_form hpost
              have HP9 := Lib.hid hp9
              have HB98 := Lib.hid hb
              clear hpost hp9
              have HV9 := Lib.hid (show Below W.heap.size W v9 from HV8.out.trans (hb.mono HV8.out.size))
              have p9a : v9.cell? ⟨g, 0, none⟩ = some (.slice A n c) := (HV9.out.cell (p := ⟨g, 0, none⟩) hgW).trans g0
              have p9b : v9.cell? ⟨g, 1, none⟩ = some (.slice D m d) := (HV9.out.cell (p := ⟨g, 1, none⟩) hgW).trans g1
              clear hb))
          | (go_simp; go_at_call_of 22 (Value.slice A8 n8 c8); refine (posts_eq A8 A9 n8 c8 n9 c9 _ v9 ((HP8.out.below HB98.out).more HB98.out.size) HP9.out HFP.out.1 HFP.out.2).mono ?_; rintro e v10 ⟨rfl, hb⟩; (
              have HV10 := Lib.hid (show Below W.heap.size W v10 from HV9.out.trans (hb.mono HV9.out.size))
              have p10a : v10.cell? ⟨g, 0, none⟩ = some (.slice A n c) := (HV10.out.cell (p := ⟨g, 0, none⟩) hgW).trans g0
              have p10b : v10.cell? ⟨g, 1, none⟩ = some (.slice D m d) := (HV10.out.cell (p := ⟨g, 1, none⟩) hgW).trans g1
              clear hb)))
      all_goals
        go_wp2
        go_ret
        exact ⟨rfl, HB8.out.trans (HV10.out.mono HB8.out.size)⟩
    · have hg2 : (600 : Int) < (bb.size : Int) := by rw [HBS.out]; omega
      go_wp2
      go_ret
      exact ⟨rfl, HB3.out⟩
  · have hg1 : (100 : Int) < (wb.size : Int) := by rw [HW.out]; omega
    go_wp2
    go_ret
    exact ⟨rfl, HB3.out⟩
end Go.Proofs.YtfinpehbpcckaaaGreatDoor
