/- SegmentFinds: the law returns true. -/
import Derived.Test.YtfinpehbpcckaaaGreatDoorFindsP
namespace Go.Proofs.YtfinpehbpcckaaaGreatDoor
open Go.RowKit
set_option linter.unusedVariables false

/-- The loops' state. -/
def FInv (W1 : World) (wr : World) : Prop := Below W1.heap.size W1 wr
set_option maxRecDepth 100000 in
set_option maxHeartbeats 2000000 in
theorem finds_any (A : Option Addr) (n c : Nat) (es : List Ent) (word : List UInt8) (w : World) (hE : Ents w w.heap.size A n es) (hc : n ≤ maxLen) (hw : word.length ≤ maxLen) (ht : Tables w) :
    Calls Tryz.prog 5 #[.slice A n c, .string (ba word)] w fun e w' => e = .returned (.bool true) ∧ Below w.heap.size w w' := by
  have HE := Lib.hid hE
  have HT := Lib.hid ht
  have HW := Lib.hid (ba_size word)
  clear hE ht
  obtain ⟨wb, hwb⟩ : ∃ wb, ba word = wb := ⟨_, rfl⟩
  have HWB := Lib.hid hwb
  rw [hwb] at HW ⊢
  clear hwb
  go_enter Tryz.func5, Tryz.ntmps5
  go_wp2_with fail
  refine (small_any w HT.out).mono ?_
  rintro e w1 ⟨rfl, hb1⟩
  have HB1 := Lib.hid hb1
  have HE1 := Lib.hid ((HE.out.below hb1).more hb1.size)
  clear hb1
  go_wp2_with fail
  refine (few_any A n c es w1 HE1.out hc).mono ?_
  rintro e w2 ⟨b, rfl, hfew, rfl⟩
  cases b
  · clear hfew
    go_wp2
    go_ret
    exact ⟨rfl, HB1.out⟩
  have hfew := hfew rfl
  have HFEW := Lib.hid hfew
  by_cases hlen : word.length ≤ 100
  · have hg : ¬ (100 : Int) < (wb.size : Int) := by rw [HW.out]; omega
    have hn9 : n ≤ 24 := by rw [← HE1.out.len]; exact hfew.1
    clear hfew
    go_wp2_with fail
    refine (seg_build A n c es w2 HE1.out HFEW.out.ents (HT.out.below HB1.out)).mono ?_
    rintro e w3 ⟨hb3, A3, n3, c3, D3, m3, d3, s, rfl, hS, hBt⟩
    have HGOOD := Lib.hid (used_goods HFEW.out.ents)
    have HEF := Lib.hid HFEW.out.efew
    have HBT := Lib.hid hBt
    have HSF := Lib.hid (hBt.few HGOOD.out HEF.out)
    have hbb : Below w3.heap.size w3 (w3.alloc (.cells #[.slice A3 n3 c3, .slice D3 m3 d3] 28)) := (Below.refl _ _).alloc (Nat.le_refl _) _
    have g0 : (w3.alloc (.cells #[.slice A3 n3 c3, .slice D3 m3 d3] 28)).cell? ⟨w3.heap.size, 0, none⟩ = some (.slice A3 n3 c3) := by go_simp
    have g1 : (w3.alloc (.cells #[.slice A3 n3 c3, .slice D3 m3 d3] 28)).cell? ⟨w3.heap.size, 1, none⟩ = some (.slice D3 m3 d3) := by go_simp
    have hz : (w3.alloc (.cells #[.slice A3 n3 c3, .slice D3 m3 d3] 28)).heap.size = w3.heap.size + 1 := by simp
    have hb13 := HB1.out.trans (hb3.mono HB1.out.size)
    obtain ⟨W1, hW1⟩ : ∃ W, w3.alloc (.cells #[.slice A3 n3 c3, .slice D3 m3 d3] 28) = W := ⟨_, rfl⟩
    obtain ⟨g, hg0⟩ : ∃ g, w3.heap.size = g := ⟨_, rfl⟩
    have HB := Lib.hid (hb13.trans (hbb.mono hb13.size))
    have HS := Lib.hid (hS.below hbb)
    have HEW := Lib.hid ((HE1.out.below (hb3.trans (hbb.mono hb3.size))).more (show w2.heap.size ≤ W1.heap.size by rw [← hW1, hz]; have := hb3.size; omega))
    rw [hW1] at g0 g1 hz HB HS HEW
    rw [hg0] at g0 g1 hz HS
    have HZ := Lib.hid hz
    have hgw : g < W1.heap.size := by omega
    have HLOOK := Lib.hid (fun (W : World) (hW : Below W1.heap.size W1 W) (f : Int) (y : List UInt8) => seg_look A3 D3 n3 c3 m3 d3 s f y W (((HS.out.below (hW.mono (by omega))).more (by have := hW.size; omega))) HSF.out (HT.out.below (HB.out.trans (hW.mono HB.out.size))))
    have HLIST := Lib.hid (fun (W : World) (hW : Below W1.heap.size W1 W) (t : List UInt8) (hl : t.length ≤ 200) => list_any t W (HT.out.below (HB.out.trans (hW.mono HB.out.size))).1 (HT.out.below (HB.out.trans (hW.mono HB.out.size))).2 (by omega))
    clear hb3 hS hBt hbb hb13 hz
    go_wp2
    clear hW1 hg0
    go_loopw [7] (fun i wr => ∃ f : Int, 1 ≤ f ∧ f ≤ 6 ∧ i = .int .i64 f ∧ Hid (FInv W1 wr)) (fun i _ => 6 - (intOf i).toNat)
    case atStart => exact ⟨1, by omega, by omega, rfl, Below.refl _ _⟩
    case round =>
      obtain ⟨f, hf1, hf6, rfl, HI⟩ := hrel
      by_cases hf5 : f ≤ 5
      · have d1 : decide (f ≤ 5) = true := decide_eq_true hf5
        obtain ⟨W2, rfl⟩ : ∃ W2, W2 = wr := ⟨_, rfl⟩
        go_wp2
        go_loopw [8] (fun i wr => ∃ k : Nat, k ≤ n ∧ i = .int .i64 (k : Int) ∧ Hid (FInv W1 wr)) (fun i _ => n - (intOf i).toNat)
        case atStart => exact ⟨0, Nat.zero_le _, rfl, HI.out⟩
        case round =>
          obtain ⟨k, hk, rfl, HJ⟩ := hrel
          have hsz := HJ.out.size
          by_cases hkn : k < n
          · have hk2 : (k : Int) < n := by omega
            have hkl : k < es.length := by rw [HEW.out.len]; exact hkn
            obtain ⟨ad, rfl, hbl, c0, c1, c2, -⟩ := (HEW.out.below HJ.out).2 k hkl
            have HU := Lib.hid (fun (h1 : countsP es[k].doc es[k].field = true) (h2 : ¬ AheadE es k) => used_of hkl h1 h2)
            have HTX := Lib.hid (HFEW.out.2 _ (List.getElem_mem hkl))
            obtain ⟨en, hen⟩ : ∃ e, es[k]'hkl = e := ⟨_, rfl⟩
            rw [hen] at c0 c1 c2 HU HTX
            obtain ⟨d, f', tx⟩ := en
            dsimp only at c0 c1 c2
            clear hen
            have HAH := Lib.hid (fun W (hW : Below W1.heap.size W1 W) => ahead_any (some ad) n c k es W ((HEW.out.below hW).more hW.size) hkn (by omega))
            clear hkl
            by_cases q1 : f' = f
            · subst q1
              have e1 : (f' != f') = false := by simp
              by_cases q2 : 1 ≤ d
              · have e2 : decide (d < 1) = false := decide_eq_false (by omega)
                by_cases q3 : d ≤ 1099511627776
                · have e3 : decide ((1099511627776 : Int) < d) = false := decide_eq_false (by omega)
                  have HCT := Lib.hid ((countsP_iff (d := d) (f := f')).2 ⟨⟨q2, show d ≤ far from q3⟩, hf1, hf5⟩)
                  go_wp2_with fail
                  refine (HAH.out wr HJ.out).mono ?_
                  rintro e w5 ⟨b, rfl, hab, hb5⟩
                  have HJ5 := Lib.hid (show Below W1.heap.size W1 w5 from HJ.out.trans (hb5.mono hsz))
                  cases b
                  · have HIN := Lib.hid (HU.out HCT.out (fun h => by have := hab.2 h; cases this))
                    have k0 : w5.cell? (ad.add (k * 3)) = some (.int .i64 d) := (hb5.cell (Nat.lt_of_lt_of_le hbl hsz)).trans c0
                    have k2 : w5.cell? ⟨(ad.add (k * 3)).block, (ad.add (k * 3)).off + 2, none⟩ = some (.string (ba tx)) := (hb5.cell (p := ⟨(ad.add (k * 3)).block, _, none⟩) (Nat.lt_of_lt_of_le hbl hsz)).trans c2
                    clear hab hb5 c0 c1 c2 e1 e2 e3
                    go_wp2_with fail
                    refine (HLIST.out w5 HJ5.out tx HTX.out).mono ?_
                    rintro e w6 ⟨vl, rfl, hvl, hb6⟩
                    obtain ⟨Al, cl, rfl, -, -, hSt⟩ := hvl.strs
                    obtain ⟨m, hm⟩ : ∃ m, (listP tx).length = m := ⟨_, rfl⟩
                    have HM := Lib.hid hm
                    have HST := Lib.hid hSt
                    have hml : m ≤ 200 := by have := list_few tx; have := HTX.out; omega
                    rw [hm] at HST ⊢
                    have h56 := hb6.size
                    have HB16 := Lib.hid (HJ5.out.trans (hb6.mono HJ5.out.size))
                    have HENT := Lib.hid (fun (y : List UInt8) (j : Nat) => look_entry HBT.out HGOOD.out HEF.out HIN.out y j)
                    have z0 : w6.cell? (ad.add (k * 3)) = some (.int .i64 d) := (hb6.cell (by have := HJ5.out.size; omega)).trans k0
                    have hadl : (ad.add (k * 3)).block < w6.heap.size := by have := HJ5.out.size; omega
                    have hg6 : g < w6.heap.size := by have := HJ5.out.size; omega
                    have z1 : w6.cell? ⟨g, 0, none⟩ = some (.slice A3 n3 c3) := (HB16.out.cell (p := ⟨g, 0, none⟩) hgw).trans g0
                    have z2 : w6.cell? ⟨g, 1, none⟩ = some (.slice D3 m3 d3) := (HB16.out.cell (p := ⟨g, 1, none⟩) hgw).trans g1
                    clear hb6 hvl hSt hm k0 k2
                    obtain ⟨W3, rfl⟩ : ∃ W3, W3 = wr := ⟨_, rfl⟩
                    go_wp2
                    go_loopw [10] (fun i wr => ∃ j : Nat, j ≤ m ∧ i = .int .i64 (j : Int) ∧ Hid (Below w6.heap.size w6 wr)) (fun i _ => m - (intOf i).toNat)
                    case atStart => exact ⟨0, Nat.zero_le _, rfl, Below.refl _ _⟩
                    case round =>
                      obtain ⟨j, hj, rfl, HQ⟩ := hrel
                      have hq6 := HQ.out.size
                      have y0 : wr.cell? (ad.add (k * 3)) = some (.int .i64 d) := (HQ.out.cell hadl).trans z0
                      have y1 : wr.cell? ⟨g, 0, none⟩ = some (.slice A3 n3 c3) := (HQ.out.cell (p := ⟨g, 0, none⟩) hg6).trans z1
                      have y2 : wr.cell? ⟨g, 1, none⟩ = some (.slice D3 m3 d3) := (HQ.out.cell (p := ⟨g, 1, none⟩) hg6).trans z2
                      have HBW := Lib.hid (HB16.out.trans (HQ.out.mono HB16.out.size))
                      by_cases hjm : j < m
                      · have hj2 : (j : Int) < m := by omega
                        have hjl : j < (listP tx).length := by rw [HM.out]; exact hjm
                        obtain ⟨al, rfl, hal, cw⟩ := HST.out.at_ hjl
                        have y3 : wr.cell? (al.add j) = some (.string (ba (listP tx)[j])) := (HQ.out.cell (by rw [add_block]; exact hal)).trans cw
                        have HHAS := Lib.hid ((HENT.out (listP tx)[j] j).2 (List.getElem?_eq_getElem hjl))
                        obtain ⟨x, hx⟩ : ∃ x, (listP tx)[j]'hjl = x := ⟨_, rfl⟩
                        rw [hx] at y3 HHAS
                        clear hx cw
                        go_wp2
                        go_region_law
                          (first
                            | (go_simp; go_at_call 23; refine (HLOOK.out wr.drew HBW.out.drew f' x).mono ?_; intro e v1 hpost; (
                                obtain ⟨Ap, np, cp, rfl, hpo, hnp, -, -, hb⟩ := look_form HSF.out hpost
                                have HPO := Lib.hid hpo
                                have HBV := Lib.hid (show Below w6.heap.size w6 v1 from HQ.out.trans (show Below w6.heap.size wr v1 from ⟨hb.os, hb.tape, hb.output, hb.size, fun i hi => hb.block i (by show i < wr.heap.size; omega)⟩))
                                have x0 : v1.cell? (ad.add (k * 3)) = some (.int .i64 d) := (HBV.out.cell hadl).trans z0
                                clear hpo hb hpost))
                            | (go_simp; go_at_call 29; refine (stands_any Ap np cp _ d (j : Int) v1 HPO.out (by omega) (fun q hq => by have := (look_small HSF.out f' (fun w => decide (w = x))).2 q hq; omega)).mono ?_; rintro e v2 ⟨b, rfl, hb, rfl⟩; (
                                obtain rfl : b = true := hb.2 HHAS.out
                                clear hb))
                            | fail)
                        all_goals
                          go_wp2
                          go_roundw
                          case rel => exact ⟨j + 1, by omega, by go_num, HBV.out⟩
                          case measure => simp [intOf] <;> omega
                      · have hjm2 : j = m := by omega
                        have HLW := Lib.hid (HLOOK.out wr HBW.out f' word)
                        rw [HWB.out] at HLW
                        go_wp2_with fail
                        refine HLW.out.mono ?_
                        intro e w7 hpost
                        obtain ⟨Ap, np, cp, rfl, hpo, hnp, -, -, hb⟩ := look_form HSF.out hpost
                        have HPO := Lib.hid hpo
                        have HBV := Lib.hid (HQ.out.trans (hb.mono hq6))
                        have h7 := hb.size
                        clear hpo hb hpost HLW
                        obtain ⟨W4, rfl⟩ : ∃ W4, W4 = wr := ⟨_, rfl⟩
                        go_wp2
                        go_loopw [12] (fun i wr => ∃ q : Nat, q ≤ m ∧ i = .int .i64 (q : Int) ∧ Hid (Below w7.heap.size w7 wr)) (fun i _ => m - (intOf i).toNat)
                        case atStart => exact ⟨0, Nat.zero_le _, rfl, Below.refl _ _⟩
                        case round =>
                          obtain ⟨q, hq, rfl, HQ2⟩ := hrel
                          have hq7 := HQ2.out.size
                          have hb6w : Below w6.heap.size w6 wr := HBV.out.trans (HQ2.out.mono (by omega))
                          have HB6W := Lib.hid hb6w
                          have y9 : wr.cell? (ad.add (k * 3)) = some (.int .i64 d) := (hb6w.cell hadl).trans z0
                          have HPW := Lib.hid ((HPO.out.below HQ2.out).more hq7)
                          by_cases hqm : q < m
                          · have hq2 : (q : Int) < m := by omega
                            have hql : q < (listP tx).length := by rw [HM.out]; exact hqm
                            obtain ⟨al, rfl, hal, cw⟩ := HST.out.at_ hql
                            have y3 : wr.cell? (al.add q) = some (.string (ba (listP tx)[q])) := (hb6w.cell (by rw [add_block]; exact hal)).trans cw
                            have HHAS := Lib.hid (HENT.out word q)
                            rw [List.getElem?_eq_getElem hql] at HHAS
                            obtain ⟨x, hx⟩ : ∃ x, (listP tx)[q]'hql = x := ⟨_, rfl⟩
                            rw [hx] at y3 HHAS
                            have e9 : ((ba x).toList == wb.toList) = decide (x = word) := by
                              rw [← HWB.out, ba_toList, ba_toList]
                              by_cases e : x = word <;> simp [e]
                            obtain ⟨b9, hb9⟩ : ∃ b9, decide (x = word) = b9 := ⟨_, rfl⟩
                            have HB9 := Lib.hid (show Has (foundP s f' fun w => decide (w = word)) d (q : Int) ↔ b9 = true by
                              have h := HHAS.out
                              rw [← hb9, decide_eq_true_eq]
                              exact h.trans ⟨fun e => Option.some.inj e, fun e => by rw [e]⟩)
                            rw [hb9] at e9
                            obtain ⟨xb, hxb⟩ : ∃ xb, ba x = xb := ⟨_, rfl⟩
                            rw [hxb] at y3 e9
                            clear hx cw hb9 hxb
                            go_wp2
                            go_region_law
                              (first
                                | (go_simp; go_at_call 29; refine (stands_any Ap np cp _ d (q : Int) wr.drew HPW.out (by omega) (fun q hq => by have := (look_small HSF.out f' (fun w => decide (w = word))).2 q hq; omega)).mono ?_; rintro e v2 ⟨b, rfl, hb, rfl⟩; (
                                    obtain rfl : b9 = b := by
                                      have h := hb.trans HB9.out
                                      cases b <;> cases b9 <;> simp_all
                                    clear hb))
                                | fail)
                            all_goals
                              cases b9
                              all_goals
                                go_wp2
                                go_roundw
                                case rel => exact ⟨q + 1, by omega, by go_num, HQ2.out.drew⟩
                                case measure => simp [intOf] <;> omega
                          · have hqm2 : q = m := by omega
                            have HNH := Lib.hid (show ¬ Has (foundP s f' fun w => decide (w = word)) d (m : Int) from fun h => by
                              have h1 := (HENT.out word m).1 h
                              have h2 := (List.getElem?_eq_some_iff.1 h1).1
                              rw [HM.out] at h2
                              omega)
                            go_wp2_with fail
                            refine (stands_any Ap np cp _ d (m : Int) wr HPW.out (by omega) (fun q hq => by have := (look_small HSF.out f' (fun w => decide (w = word))).2 q hq; omega)).mono ?_
                            rintro e w9 ⟨b, rfl, hb, rfl⟩
                            cases b
                            · go_wp2
                              go_roundw
                              case rel => exact ⟨k + 1, by omega, by go_num, HB16.out.trans (HB6W.out.mono HB16.out.size)⟩
                              case measure => simp [intOf] <;> omega
                            · exact absurd (hb.1 rfl) HNH.out
                  · clear hab hb5
                    go_wp2
                    go_roundw
                    case rel => exact ⟨k + 1, by omega, by go_num, HJ5.out⟩
                    case measure => simp [intOf] <;> omega
                · have e3 : decide ((1099511627776 : Int) < d) = true := decide_eq_true (by omega)
                  go_wp2
                  go_roundw
                  case rel => exact ⟨k + 1, by omega, by go_num, HJ.out⟩
                  case measure => simp [intOf] <;> omega
              · have e2 : decide (d < 1) = true := decide_eq_true (by omega)
                go_wp2
                go_roundw
                case rel => exact ⟨k + 1, by omega, by go_num, HJ.out⟩
                case measure => simp [intOf] <;> omega
            · have e1 : (f' != f) = true := by simp [q1]
              go_wp2
              go_roundw
              case rel => exact ⟨k + 1, by omega, by go_num, HJ.out⟩
              case measure => simp [intOf] <;> omega
          · go_wp2
            go_roundw
            case rel => exact ⟨f + 1, by omega, by omega, by go_num, HJ.out⟩
            case measure => simp [intOf] <;> omega
      · have d1 : decide (f ≤ 5) = false := decide_eq_false hf5
        go_wp2
        go_ret
        exact ⟨rfl, HB.out.trans (HI.out.mono HB.out.size)⟩
  · have hg : (100 : Int) < (wb.size : Int) := by rw [HW.out]; omega
    go_wp2
    go_ret
    exact ⟨rfl, HB1.out⟩
end Go.Proofs.YtfinpehbpcckaaaGreatDoor
