/- SegmentOrder: the law returns true (printed by gen_order.py). -/
import Derived.Test.YtfinpehbpcckaaaGreatDoorEntT
namespace Go.Proofs.YtfinpehbpcckaaaGreatDoor
open Go.RowKit
set_option linter.unusedVariables false

/-- The loop's state: the entries from k on, backwards; none of them has an earlier one of its document and field. -/
def OBack (W1 w8 : World) (es : List Ent) (k : Nat) (v : Value) (wr : World) : Prop := OwnEnts wr w8.heap.size v (es.drop k).reverse ∧ (∀ j, j < es.length → k ≤ j → ¬ AheadE es j) ∧ Below w8.heap.size w8 wr
theorem OwnEnts_start {w w8 : World} {A : Option Addr} {n B : Nat} {es : List Ent} (h : Ents w B A n es) : OwnEnts w8 w8.heap.size (.slice none 0 0) (es.drop n).reverse := by
  rw [List.drop_of_length_le (by rw [h.len]; exact Nat.le_refl _)]
  exact OwnEnts.nil_ _ _
set_option maxRecDepth 100000 in
set_option maxHeartbeats 2000000 in
theorem order_any (A : Option Addr) (n c : Nat) (es : List Ent) (w : World) (hE : Ents w w.heap.size A n es) (hc : n ≤ maxLen) (ht : Tables w) :
    Calls Tryz.prog 6 #[.slice A n c] w fun e w' => e = .returned (.bool true) ∧ Below w.heap.size w w' := by
  have HE := Lib.hid hE
  have HT := Lib.hid ht
  clear hE ht
  go_enter Tryz.func6, Tryz.ntmps6
  go_wp2_with fail
  refine (small_any w HT.out).mono ?_
  rintro e w1 ⟨rfl, hb1⟩
  have HB1 := Lib.hid hb1
  have HE1 := Lib.hid ((HE.out.below hb1).more hb1.size)
  clear hb1
  go_wp2_with fail
  refine (few_any A n c es w1 HE1.out hc).mono ?_
  rintro e w2 ⟨b, rfl, hfew, rfl⟩
  cases b
  · clear hfew
    go_wp2
    go_ret
    exact ⟨rfl, HB1.out⟩
  have hfew := hfew rfl
  have HFEW := Lib.hid hfew
  have hn9 : n ≤ 24 := by rw [← HE1.out.len]; exact hfew.1
  clear hfew
  go_wp2_with fail
  refine (seg_build A n c es w2 HE1.out HFEW.out.ents (HT.out.below HB1.out)).mono ?_
  rintro e w3 ⟨hb3, A3, n3, c3, D3, m3, d3, s, rfl, hS, hBt⟩
  have HGOOD := Lib.hid (used_goods HFEW.out.ents)
  have HEF := Lib.hid HFEW.out.efew
  have HBT := Lib.hid hBt
  have HSF := Lib.hid (hBt.few HGOOD.out HEF.out)
  have hbb : Below w3.heap.size w3 (w3.alloc (.cells #[.slice A3 n3 c3, .slice D3 m3 d3] 28)) := (Below.refl _ _).alloc (Nat.le_refl _) _
  have g0 : (w3.alloc (.cells #[.slice A3 n3 c3, .slice D3 m3 d3] 28)).cell? ⟨w3.heap.size, 0, none⟩ = some (.slice A3 n3 c3) := by go_simp
  have g1 : (w3.alloc (.cells #[.slice A3 n3 c3, .slice D3 m3 d3] 28)).cell? ⟨w3.heap.size, 1, none⟩ = some (.slice D3 m3 d3) := by go_simp
  have hz : (w3.alloc (.cells #[.slice A3 n3 c3, .slice D3 m3 d3] 28)).heap.size = w3.heap.size + 1 := by simp
  have hb13 := HB1.out.trans (hb3.mono HB1.out.size)
  obtain ⟨W1, hW1⟩ : ∃ W, w3.alloc (.cells #[.slice A3 n3 c3, .slice D3 m3 d3] 28) = W := ⟨_, rfl⟩
  obtain ⟨g, hg0⟩ : ∃ g, w3.heap.size = g := ⟨_, rfl⟩
  have HB := Lib.hid (hb13.trans (hbb.mono hb13.size))
  have HS := Lib.hid (hS.below hbb)
  have HEW := Lib.hid ((HE1.out.below (hb3.trans (hbb.mono hb3.size))).more (show w2.heap.size ≤ W1.heap.size by rw [← hW1, hz]; have := hb3.size; omega))
  rw [hW1] at g0 g1 hz HB HS HEW
  rw [hg0] at g0 g1 hz HS
  have HZ := Lib.hid hz
  have hgw : g < W1.heap.size := by omega
  have hwW := HB.out.size
  clear hb3 hS hBt hbb hb13 hz
  have HSEG := Lib.hid (fun (W : World) (hW : Below W1.heap.size W1 W) => (HS.out.below (hW.mono (by omega))).more (B' := W.heap.size) (by have := hW.size; omega))
  have HTW := Lib.hid (fun (W : World) (hW : Below W1.heap.size W1 W) => HT.out.below (HB.out.trans (hW.mono HB.out.size)))
  have HV := Lib.hid (HBT.out.valid HGOOD.out HEF.out)
  have HBL := Lib.hid (HBT.out.bytes HGOOD.out HEF.out)
  go_wp2_with fail
  refine (seg_bytes A3 D3 n3 c3 m3 d3 s W1 (HSEG.out W1 (Below.refl _ _)) HSF.out (HTW.out W1 (Below.refl _ _))).mono ?_
  rintro e w5 ⟨rfl, hb5⟩
  have HREAD := Lib.hid (seg_read (bytesP s) w5 (by have := HBL.out; omega) (by rw [read_raw HV.out HSF.out]; exact HSF.out) (HTW.out w5 hb5))
  have HB5 := Lib.hid hb5
  obtain ⟨BS, hBS⟩ : ∃ q, ba (bytesP s) = q := ⟨_, rfl⟩
  rw [hBS] at HREAD ⊢
  clear hb5 hBS
  go_wp2_with fail
  refine HREAD.out.mono ?_
  rintro e w6 ⟨hb6, A6, n6, c6, D6, m6, d6, rfl, hS6⟩
  rw [read_bytes HV.out HSF.out] at hS6 ⊢
  have hb56 : Below W1.heap.size W1 w6 := HB5.out.trans (hb6.mono HB5.out.size)
  have r0 : (w6.alloc (.cells #[.slice A6 n6 c6, .slice D6 m6 d6] 28)).cell? ⟨w6.heap.size, 0, none⟩ = some (.slice A6 n6 c6) := by go_simp
  have r1 : (w6.alloc (.cells #[.slice A6 n6 c6, .slice D6 m6 d6] 28)).cell? ⟨w6.heap.size, 1, none⟩ = some (.slice D6 m6 d6) := by go_simp
  have hzr : (w6.alloc (.cells #[.slice A6 n6 c6, .slice D6 m6 d6] 28)).heap.size = w6.heap.size + 1 := by simp
  have hbr : Below w6.heap.size w6 (w6.alloc (.cells #[.slice A6 n6 c6, .slice D6 m6 d6] 28)) := (Below.refl _ _).alloc (Nat.le_refl _) _
  obtain ⟨W6, hW6⟩ : ∃ W, w6.alloc (.cells #[.slice A6 n6 c6, .slice D6 m6 d6] 28) = W := ⟨_, rfl⟩
  obtain ⟨rb, hrb⟩ : ∃ rb, w6.heap.size = rb := ⟨_, rfl⟩
  have HS6 := Lib.hid (hS6.below hbr)
  have HB6 := Lib.hid (hb56.trans (hbr.mono hb56.size))
  rw [hW6] at r0 r1 hzr HS6 HB6
  rw [hrb] at r0 r1 hzr HS6
  have HZR := Lib.hid hzr
  have g0' : W6.cell? ⟨g, 0, none⟩ = some (.slice A3 n3 c3) := (HB6.out.cell (p := ⟨g, 0, none⟩) hgw).trans g0
  have g1' : W6.cell? ⟨g, 1, none⟩ = some (.slice D3 m3 d3) := (HB6.out.cell (p := ⟨g, 1, none⟩) hgw).trans g1
  clear hb6 hS6 hb56 hbr hzr HREAD
  go_wp2_with fail
  refine (seg_right A3 D3 n3 c3 m3 d3 s W6 (HSEG.out W6 HB6.out) HSF.out (HTW.out W6 HB6.out)).mono ?_
  rintro e w7 ⟨rfl, hb7⟩
  rw [HV.out]
  have HB7 := Lib.hid (HB6.out.trans (hb7.mono HB6.out.size))
  have g0'' : w7.cell? ⟨g, 0, none⟩ = some (.slice A3 n3 c3) := (HB7.out.cell (p := ⟨g, 0, none⟩) hgw).trans g0
  have g1'' : w7.cell? ⟨g, 1, none⟩ = some (.slice D3 m3 d3) := (HB7.out.cell (p := ⟨g, 1, none⟩) hgw).trans g1
  have r0' : w7.cell? ⟨rb, 0, none⟩ = some (.slice A6 n6 c6) := (hb7.cell (p := ⟨rb, 0, none⟩) (by have := HZR.out; show rb < _; omega)).trans r0
  have r1' : w7.cell? ⟨rb, 1, none⟩ = some (.slice D6 m6 d6) := (hb7.cell (p := ⟨rb, 1, none⟩) (by have := HZR.out; show rb < _; omega)).trans r1
  have HS7 := Lib.hid ((HS6.out.below (hb7.mono (by have := HZR.out; omega))).more (B' := w7.heap.size) (by have := HZR.out; have := hb7.size; omega))
  clear hb7 g0' g1' r0 r1
  go_wp2_with fail
  refine (seg_same A3 D3 A6 D6 n3 c3 m3 d3 n6 c6 m6 d6 s s w7 (HSEG.out w7 HB7.out) HS7.out).mono ?_
  rintro e w8 ⟨rfl, hb8⟩
  have HDT := Lib.hid (show decide (s = s) = true from decide_eq_true rfl)
  rw [HDT.out]
  have HB8 := Lib.hid (HB7.out.trans (hb8.mono HB7.out.size))
  have h8 := HB8.out.size
  have hnw : IntKind.i64.wrap ((n : Int) - 1) = (n : Int) - 1 := IntWalk.i64_in _ (by omega)
  clear hb8 g0'' g1'' r0' r1'
  go_wp2
  clear hW1 hg0
  go_loopw [7, 8] (fun v i wr => ∃ k : Nat, k ≤ n ∧ i = .int .i64 ((k : Int) - 1) ∧ Hid (OBack W1 w8 es k v wr)) (fun _ i _ => (intOf i + 1).toNat)
  case atStart => exact ⟨n, Nat.le_refl _, rfl, OwnEnts_start HEW.out, (fun j hj h => by rw [HEW.out.len] at hj; omega), Below.refl _ _⟩
  case round =>
    obtain ⟨k, hk, rfl, HK⟩ := hrel
    obtain ⟨hown, hno, hbl⟩ := HK.out
    have HOWN := Lib.hid hown
    have HNO := Lib.hid hno
    have HBL8 := Lib.hid hbl
    have HBW := Lib.hid (HB8.out.trans (hbl.mono HB8.out.size))
    have hsz := hbl.size
    obtain ⟨Av, cv, rfl, hv1, hv2, hve⟩ := hown.ents
    have hlen : (es.drop k).reverse.length = n - k := by rw [List.length_reverse, List.length_drop, HEW.out.len]
    rw [hlen] at hv1 hve HOWN ⊢
    have HVE := Lib.hid hve
    clear hown hno hbl hve hlen
    by_cases hk0 : k = 0
    · subst hk0
      have e0 : ((0 : Nat) : Int) - 1 = -1 := rfl
      rw [e0]
      have y1 : wr.cell? ⟨g, 0, none⟩ = some (.slice A3 n3 c3) := (HBW.out.cell (p := ⟨g, 0, none⟩) hgw).trans g0
      have y2 : wr.cell? ⟨g, 1, none⟩ = some (.slice D3 m3 d3) := (HBW.out.cell (p := ⟨g, 1, none⟩) hgw).trans g1
      have HVE0 := Lib.hid (show Ents wr wr.heap.size Av (n - 0) es.reverse from HVE.out)
      have HNA := Lib.hid (show ∀ j, j < es.length → ¬ AheadE es j from fun j hj => HNO.out j hj (Nat.zero_le _))
      rw [Nat.sub_zero] at HVE0 ⊢
      have hgwr : g < wr.heap.size := by have := HBW.out.size; omega
      go_wp2
      go_region_law
        (first
          | (go_simp; go_at_call 11; refine (seg_build Av n cv es.reverse wr.drew HVE0.out HFEW.out.reverse.ents (HTW.out wr.drew HBW.out.drew)).mono ?_; rintro e w9 ⟨hb9, A9, n9, c9, D9, m9, d9, s9, rfl, hS9, hB9⟩; (
              obtain rfl : s9 = s := built_back HNA.out HBT.out hB9
              have HB9 := Lib.hid (HBW.out.trans (show Below W1.heap.size wr w9 from ⟨hb9.os, hb9.tape, hb9.output, hb9.size, fun i hi => hb9.block i (by show i < wr.heap.size; have := HBW.out.size; omega)⟩))
              have HS9 := Lib.hid hS9
              have x1 : w9.cell? ⟨g, 0, none⟩ = some (.slice A3 n3 c3) := (HB9.out.cell (p := ⟨g, 0, none⟩) hgw).trans g0
              have x2 : w9.cell? ⟨g, 1, none⟩ = some (.slice D3 m3 d3) := (HB9.out.cell (p := ⟨g, 1, none⟩) hgw).trans g1
              clear hb9 hS9 hB9))
          | (go_simp; go_at_call 19; refine (seg_same A9 D9 A3 D3 n9 c9 m9 d9 n3 c3 m3 d3 s9 s9 w9 HS9.out (HSEG.out w9 HB9.out)).mono ?_; rintro e w10 ⟨rfl, hb10⟩; (
              have HDT9 := Lib.hid (show decide (s9 = s9) = true from decide_eq_true rfl)
              rw [HDT9.out]
              have HB10 := Lib.hid (HB9.out.trans (hb10.mono HB9.out.size))
              clear hb10))
          | fail)
      all_goals
        go_wp2
        go_ret
        exact ⟨rfl, HB.out.trans (HB10.out.mono HB.out.size)⟩
    · obtain ⟨j, rfl⟩ : ∃ j, k = j + 1 := ⟨k - 1, by omega⟩
      have e0 : ((j + 1 : Nat) : Int) - 1 = (j : Int) := by omega
      rw [e0]
      have hj2 : (j : Int) < n := by omega
      have hjn : j < n := by omega
      have hjw : IntKind.i64.wrap ((j : Int) - 1) = (j : Int) - 1 := IntWalk.i64_in _ (by omega)
      go_wp2_with fail
      refine (ahead_any A n c j es wr ((HEW.out.below HBW.out).more HBW.out.size) hjn (by omega)).mono ?_
      rintro e w9 ⟨b, rfl, hab, hb9⟩
      have HB9 := Lib.hid hb9
      have HB9W := Lib.hid (HBW.out.trans (hb9.mono HBW.out.size))
      cases b
      · have HNJ := Lib.hid (show ¬ AheadE es j from fun h => by have := hab.2 h; cases this)
        have hjl : j < es.length := by rw [HEW.out.len]; exact hjn
        obtain ⟨ad, rfl, hbl, c0, c1, c2, hsf⟩ := (HEW.out.below HB9W.out).2 j hjl
        have HDR := Lib.hid (show (es.drop j).reverse = (es.drop (j + 1)).reverse ++ [es[j]] by rw [List.drop_eq_getElem_cons hjl, List.reverse_cons])
        obtain ⟨en, hen⟩ : ∃ e, es[j]'hjl = e := ⟨_, rfl⟩
        rw [hen] at c0 c1 c2 hsf HDR
        obtain ⟨d, f, tx⟩ := en
        dsimp only at c0 c1 c2 hsf
        have HSP := Lib.hid hsf
        have HO9 := Lib.hid (HOWN.out.below hb9)
        have h9 : w8.heap.size ≤ w9.heap.size := by have := hb9.size; omega
        have hpl : ((es.drop (j + 1)).reverse).length ≤ 1000000000 := by rw [List.length_reverse, List.length_drop, HEW.out.len]; omega
        have HPL := Lib.hid hpl
        clear hab hb9 hen hsf hpl
        go_wp2_with (at_builtin; go_must (refine wpList_pushEnt (f := d) (g := f) (l := tx) HO9.out h9 HSP.out HPL.out rfl (.tmp 46) (.tmp 51) 1 rfl rfl rfl ?_); intro v' w10 hown1 hg1; have H1 := Lib.hid hown1; have H2 := Lib.hid hg1; clear hown1 hg1)
        go_roundw
        case rel =>
          refine ⟨j, by omega, rfl, ?_, fun q hq hjq => ?_, ?_⟩
          · rw [HDR.out]; exact H1.out
          · by_cases e : q = j
            · subst e; exact HNJ.out
            · exact HNO.out q hq (by omega)
          · exact (HBL8.out.trans (HB9.out.mono hsz)).grown H2.out (by have := HB9.out.size; omega) fun i e => (HO9.out.row.lt i e).1
        case measure => simp [intOf] <;> omega
      · clear hab hb9
        go_wp2
        go_ret
        exact ⟨rfl, HB.out.trans (HB9W.out.mono HB.out.size)⟩
end Go.Proofs.YtfinpehbpcckaaaGreatDoor
