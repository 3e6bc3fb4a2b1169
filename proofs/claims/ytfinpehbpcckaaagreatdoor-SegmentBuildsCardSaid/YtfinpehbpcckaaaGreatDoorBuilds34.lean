/- SegmentBuilds: the law returns true. -/
import Derived.Test.YtfinpehbpcckaaaGreatDoorRBld1
import Derived.Test.YtfinpehbpcckaaaGreatDoorRBld2
import Derived.Test.YtfinpehbpcckaaaGreatDoorRBld3
import Derived.Test.YtfinpehbpcckaaaGreatDoorRSegY
import Derived.Test.YtfinpehbpcckaaaGreatDoorFindsP
import Derived.Deep.RegionHeld3
import Derived.Deep.DrawnRows
namespace Go.Proofs.YtfinpehbpcckaaaGreatDoor
open Go.RowKit
set_option linter.unusedVariables false
attribute [local go_sem ↓] Go.wp_at_zero Go.wp_at_succ

theorem rseg_build (A : Option Addr) (n c : Nat) (es : List Ent) (w : World) (h : Ents w w.heap.size A n es) (hn : n ≤ 1000000) (hU : EFew (usedE es)) (hG : Goods (usedE es)) :
    Calls Tryz.prog 12 #[.slice A n c] w (BuildPost w (usedE es)) := rseg_build_of (rbuild_two rbuild_three) A n c es w h hn hU hG
set_option maxRecDepth 100000 in
set_option maxHeartbeats 16000000 in
theorem builds34_any (A : Option Addr) (n c : Nat) (es : List Ent) (w : World) (hE : Ents w w.heap.size A n es) (hc : n ≤ maxLen) (ht : Tables w) :
    Calls Tryz.prog 3 #[.slice A n c] w fun e w' => e = .returned (.bool true) ∧ Below w.heap.size w w' := by
  have HE := Lib.hid hE
  have HT := Lib.hid ht
  clear hE ht
  go_enter Tryz.func3, Tryz.ntmps3
  go_wp2_with fail
  refine (small_any w HT.out).mono ?_
  rintro e w1 ⟨rfl, hb1⟩
  have HB1 := Lib.hid hb1
  have HE1 := Lib.hid ((HE.out.below hb1).more hb1.size)
  clear hb1
  go_wp2_with fail
  refine (few_any A n c es w1 HE1.out hc).mono ?_
  rintro e w2 ⟨b, rfl, hfew, rfl⟩
  cases b
  · clear hfew
    go_wp2
    go_ret
    exact ⟨rfl, HB1.out⟩
  have hfew := hfew rfl
  have HFEW := Lib.hid hfew
  have hn9 : n ≤ 24 := by rw [← HE1.out.len]; exact hfew.1
  clear hfew
  go_wp2_with fail
  refine (seg_build A n c es w2 HE1.out HFEW.out.ents (HT.out.below HB1.out)).mono ?_
  rintro e w3 ⟨hb3, A3, n3, c3, D3, m3, d3, s, rfl, hS, hBt⟩
  have HGOOD := Lib.hid (used_goods HFEW.out.ents)
  have HEF := Lib.hid HFEW.out.efew
  have HBT := Lib.hid hBt
  have HSF := Lib.hid (hBt.few HGOOD.out HEF.out)
  have hbb : Below w3.heap.size w3 (w3.alloc (.cells #[.slice A3 n3 c3, .slice D3 m3 d3] 28)) := (Below.refl _ _).alloc (Nat.le_refl _) _
  have g0 : (w3.alloc (.cells #[.slice A3 n3 c3, .slice D3 m3 d3] 28)).cell? ⟨w3.heap.size, 0, none⟩ = some (.slice A3 n3 c3) := by go_simp
  have g1 : (w3.alloc (.cells #[.slice A3 n3 c3, .slice D3 m3 d3] 28)).cell? ⟨w3.heap.size, 1, none⟩ = some (.slice D3 m3 d3) := by go_simp
  have hz : (w3.alloc (.cells #[.slice A3 n3 c3, .slice D3 m3 d3] 28)).heap.size = w3.heap.size + 1 := by simp
  have hb13 := HB1.out.trans (hb3.mono HB1.out.size)
  have HS4 := Lib.hid ((hS.below hbb).more hbb.size)
  have HE4 := Lib.hid ((HE1.out.below (hb3.trans (hbb.mono hb3.size))).more (show w2.heap.size ≤ (w3.alloc (.cells #[.slice A3 n3 c3, .slice D3 m3 d3] 28)).heap.size by rw [hz]; have := hb3.size; omega))
  have HB4 := Lib.hid (hb13.trans (hbb.mono hb13.size))
  clear hb3 hS hBt hbb hb13
  go_wp2_with fail
  refine (rseg_build A n c es _ HE4.out (by omega) HEF.out HGOOD.out).mono ?_
  rintro e w5 ⟨hb5, A5, n5, c5, D5, m5, d5, t, rfl, hT5, hBt5⟩
  obtain rfl : s = t := HBT.out.unique hBt5
  have HB5 := Lib.hid (HB4.out.trans (hb5.mono HB4.out.size))
  have HS5 := Lib.hid ((HS4.out.below hb5).more hb5.size)
  have x0 : w5.cell? ⟨w3.heap.size, 0, none⟩ = some (.slice A3 n3 c3) := (hb5.cell (p := ⟨w3.heap.size, 0, none⟩) (by show w3.heap.size < _; omega)).trans g0
  have x1 : w5.cell? ⟨w3.heap.size, 1, none⟩ = some (.slice D3 m3 d3) := (hb5.cell (p := ⟨w3.heap.size, 1, none⟩) (by show w3.heap.size < _; omega)).trans g1
  have hgw : w3.heap.size < w5.heap.size := by have := hb5.size; omega
  have HT5 := Lib.hid hT5
  obtain ⟨g, hg⟩ : ∃ g, w3.heap.size = g := ⟨_, rfl⟩
  rw [hg] at x0 x1 hgw ⊢
  clear hb5 hT5 hBt5 g0 g1 hz hg
  -- the second box
  have hbb : Below w5.heap.size w5 (w5.alloc (.cells #[.slice A5 n5 c5, .slice D5 m5 d5] 28)) := (Below.refl _ _).alloc (Nat.le_refl _) _
  have y0 : (w5.alloc (.cells #[.slice A5 n5 c5, .slice D5 m5 d5] 28)).cell? ⟨w5.heap.size, 0, none⟩ = some (.slice A5 n5 c5) := by go_simp
  have y1 : (w5.alloc (.cells #[.slice A5 n5 c5, .slice D5 m5 d5] 28)).cell? ⟨w5.heap.size, 1, none⟩ = some (.slice D5 m5 d5) := by go_simp
  have z0 : (w5.alloc (.cells #[.slice A5 n5 c5, .slice D5 m5 d5] 28)).cell? ⟨g, 0, none⟩ = some (.slice A3 n3 c3) := (hbb.cell (p := ⟨g, 0, none⟩) hgw).trans x0
  have z1 : (w5.alloc (.cells #[.slice A5 n5 c5, .slice D5 m5 d5] 28)).cell? ⟨g, 1, none⟩ = some (.slice D3 m3 d3) := (hbb.cell (p := ⟨g, 1, none⟩) hgw).trans x1
  have hz : (w5.alloc (.cells #[.slice A5 n5 c5, .slice D5 m5 d5] 28)).heap.size = w5.heap.size + 1 := by simp
  go_wp2
  obtain ⟨W, hW⟩ : ∃ W, w5.alloc (.cells #[.slice A5 n5 c5, .slice D5 m5 d5] 28) = W := ⟨_, rfl⟩
  obtain ⟨q, hq⟩ : ∃ q, w5.heap.size = q := ⟨_, rfl⟩
  have HB6 := Lib.hid (HB5.out.trans (hbb.mono HB5.out.size))
  have HSA := Lib.hid ((HS5.out.below hbb).more hbb.size)
  have HSB := Lib.hid ((HT5.out.below hbb).more hbb.size)
  rw [hW] at y0 y1 z0 z1 hz HB6 HSA HSB ⊢
  rw [hq] at y0 y1 hz hgw ⊢
  have hqW : q < W.heap.size := by omega
  have hgW : g < W.heap.size := by omega
  have HSM := Lib.hid (fun W' (hW : Below W.heap.size W W') => rseg_same A3 D3 A5 D5 n3 c3 m3 d3 n5 c5 m5 d5 s W' ((HSA.out.below hW).more hW.size) ((HSB.out.below hW).more hW.size) (by have h1 := HSA.out.docs.len; have h2 := HSF.out.docs; omega))
  have HY1 := Lib.hid (fun W' (hW : Below W.heap.size W W') => seg_bytes A3 D3 n3 c3 m3 d3 s W' ((HSA.out.below hW).more hW.size) HSF.out (HT.out.below (HB6.out.trans (hW.mono HB6.out.size))))
  have HY2 := Lib.hid (fun W' (hW : Below W.heap.size W W') => rseg_bytes A5 D5 n5 c5 m5 d5 s W' ((HSB.out.below hW).more hW.size) HSF.out)
  unfold StrPost at HY1 HY2
  obtain ⟨by_, hby⟩ : ∃ q, ba (bytesP s) = q := ⟨_, rfl⟩
  simp only [hby] at HY1 HY2
  have HK := Lib.hid (fun W' (hW : Below W.heap.size W W') => show W'.cell? ⟨g, 0, none⟩ = some (.slice A3 n3 c3) ∧ W'.cell? ⟨g, 1, none⟩ = some (.slice D3 m3 d3) ∧ W'.cell? ⟨q, 0, none⟩ = some (.slice A5 n5 c5) ∧ W'.cell? ⟨q, 1, none⟩ = some (.slice D5 m5 d5) from
    ⟨(hW.cell (p := ⟨g, 0, none⟩) hgW).trans z0, (hW.cell (p := ⟨g, 1, none⟩) hgW).trans z1, (hW.cell (p := ⟨q, 0, none⟩) hqW).trans y0, (hW.cell (p := ⟨q, 1, none⟩) hqW).trans y1⟩)
  have e2 : (by_.toList == by_.toList) = true := by simp
  clear hW hq hbb x0 x1 hby hz
  go_region_held3 (fun w' => w'.cell? ⟨g, 0, none⟩ = some (.slice A3 n3 c3) ∧ w'.cell? ⟨g, 1, none⟩ = some (.slice D3 m3 d3) ∧ w'.cell? ⟨q, 0, none⟩ = some (.slice A5 n5 c5) ∧ w'.cell? ⟨q, 1, none⟩ = some (.slice D5 m5 d5))
    (first
      | exact HK.out _ (Below.drew (Below.refl _ _))
      | exact HK.out _ HV1.out
      | exact HK.out _ HV2.out
      | exact HK.out _ HV3.out)
    (first
      | (go_simp; go_at_call 13; refine (HSM.out W.drew (Below.drew (Below.refl _ _))).mono ?_; rintro e v1 ⟨rfl, hb⟩; (
          have HV1 := Lib.hid (show Below W.heap.size W v1 from (Below.drew (Below.refl _ _)).trans hb)
          clear hb))
      | (go_simp; go_at_call 14; refine (HY1.out v1 HV1.out).mono ?_; rintro e v2 ⟨rfl, hb⟩; (
          have HV2 := Lib.hid (show Below W.heap.size W v2 from HV1.out.trans (hb.mono HV1.out.size))
          clear hb))
      | (go_simp; go_at_call 15; refine (HY2.out v2 HV2.out).mono ?_; rintro e v3 ⟨rfl, hb⟩; (
          have HV3 := Lib.hid (show Below W.heap.size W v3 from HV2.out.trans (hb.mono HV2.out.size))
          clear hb)))
  all_goals
    go_wp2
    go_ret
    exact ⟨rfl, HB6.out.trans (HV3.out.mono HB6.out.size)⟩
end Go.Proofs.YtfinpehbpcckaaaGreatDoor
