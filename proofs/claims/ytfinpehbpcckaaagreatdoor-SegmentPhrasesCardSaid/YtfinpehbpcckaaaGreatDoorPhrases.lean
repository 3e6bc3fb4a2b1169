/- SegmentPhrases: the law returns true (printed by gen_phrases.py). -/
import Derived.Test.YtfinpehbpcckaaaGreatDoorPhrasesP
namespace Go.Proofs.YtfinpehbpcckaaaGreatDoor
open Go.RowKit
set_option linter.unusedVariables false

set_option maxRecDepth 100000 in
set_option maxHeartbeats 4000000 in
theorem phrases_any (A : Option Addr) (n c : Nat) (es : List Ent) (x y : List UInt8) (w : World) (hE : Ents w w.heap.size A n es) (hc : n ≤ maxLen) (hw : x.length ≤ maxLen) (hw2 : y.length ≤ maxLen) (ht : Tables w) :
    Calls Tryz.prog 8 #[.slice A n c, .string (ba x), .string (ba y)] w fun e w' => e = .returned (.bool true) ∧ Below w.heap.size w w' := by
  have HE := Lib.hid hE
  have HT := Lib.hid ht
  have HW := Lib.hid (ba_size x)
  have HV := Lib.hid (ba_size y)
  clear hE ht
  obtain ⟨xb, hxb⟩ : ∃ xb, ba x = xb := ⟨_, rfl⟩
  obtain ⟨yb, hyb⟩ : ∃ yb, ba y = yb := ⟨_, rfl⟩
  have HXB := Lib.hid hxb
  have HYB := Lib.hid hyb
  rw [hxb] at HW ⊢
  rw [hyb] at HV ⊢
  clear hxb hyb
  go_enter Tryz.func8, Tryz.ntmps8
  go_wp2_with fail
  refine (small_any w HT.out).mono ?_
  rintro e w1 ⟨rfl, hb1⟩
  have HB1 := Lib.hid hb1
  have HE1 := Lib.hid ((HE.out.below hb1).more hb1.size)
  clear hb1
  go_wp2_with fail
  refine (few_any A n c es w1 HE1.out hc).mono ?_
  rintro e w2 ⟨b, rfl, hfew, rfl⟩
  cases b
  · clear hfew
    go_wp2
    go_ret
    exact ⟨rfl, HB1.out⟩
  have hfew := hfew rfl
  have HFEW := Lib.hid hfew
  by_cases hlen : x.length ≤ 100
  rotate_left
  · have hg : (100 : Int) < (xb.size : Int) := by rw [HW.out]; omega
    go_wp2
    go_ret
    exact ⟨rfl, HB1.out⟩
  by_cases hlen2 : y.length ≤ 100
  rotate_left
  · have hg : ¬ (100 : Int) < (xb.size : Int) := by rw [HW.out]; omega
    have hg2 : (100 : Int) < (yb.size : Int) := by rw [HV.out]; omega
    go_wp2
    go_ret
    exact ⟨rfl, HB1.out⟩
  · have hg : ¬ (100 : Int) < (xb.size : Int) := by rw [HW.out]; omega
    have hg2 : ¬ (100 : Int) < (yb.size : Int) := by rw [HV.out]; omega
    have hn9 : n ≤ 24 := by rw [← HE1.out.len]; exact hfew.1
    clear hfew
    go_wp2_with fail
    refine (seg_build A n c es w2 HE1.out HFEW.out.ents (HT.out.below HB1.out)).mono ?_
    rintro e w3 ⟨hb3, A3, n3, c3, D3, m3, d3, s, rfl, hS, hBt⟩
    have HGOOD := Lib.hid (used_goods HFEW.out.ents)
    have HEF := Lib.hid HFEW.out.efew
    have HBT := Lib.hid hBt
    have HSF := Lib.hid (hBt.few HGOOD.out HEF.out)
    have hbb : Below w3.heap.size w3 (w3.alloc (.cells #[.slice A3 n3 c3, .slice D3 m3 d3] 28)) := (Below.refl _ _).alloc (Nat.le_refl _) _
    have g0 : (w3.alloc (.cells #[.slice A3 n3 c3, .slice D3 m3 d3] 28)).cell? ⟨w3.heap.size, 0, none⟩ = some (.slice A3 n3 c3) := by go_simp
    have g1 : (w3.alloc (.cells #[.slice A3 n3 c3, .slice D3 m3 d3] 28)).cell? ⟨w3.heap.size, 1, none⟩ = some (.slice D3 m3 d3) := by go_simp
    have hz : (w3.alloc (.cells #[.slice A3 n3 c3, .slice D3 m3 d3] 28)).heap.size = w3.heap.size + 1 := by simp
    have hb13 := HB1.out.trans (hb3.mono HB1.out.size)
    obtain ⟨W1, hW1⟩ : ∃ W, w3.alloc (.cells #[.slice A3 n3 c3, .slice D3 m3 d3] 28) = W := ⟨_, rfl⟩
    obtain ⟨g, hg0⟩ : ∃ g, w3.heap.size = g := ⟨_, rfl⟩
    have HB := Lib.hid (hb13.trans (hbb.mono hb13.size))
    have HS := Lib.hid (hS.below hbb)
    have HEW := Lib.hid ((HE1.out.below (hb3.trans (hbb.mono hb3.size))).more (show w2.heap.size ≤ W1.heap.size by rw [← hW1, hz]; have := hb3.size; omega))
    rw [hW1] at g0 g1 hz HB HS HEW
    rw [hg0] at g0 g1 hz HS
    have HZ := Lib.hid hz
    have hgw : g < W1.heap.size := by omega
    have HLOOK := Lib.hid (fun (W : World) (hW : Below W1.heap.size W1 W) (f : Int) (y : List UInt8) => seg_look A3 D3 n3 c3 m3 d3 s f y W (((HS.out.below (hW.mono (by omega))).more (by have := hW.size; omega))) HSF.out (HT.out.below (HB.out.trans (hW.mono HB.out.size))))
    have HLIST := Lib.hid (fun (W : World) (hW : Below W1.heap.size W1 W) (t : List UInt8) (hl : t.length ≤ 200) => list_any t W (HT.out.below (HB.out.trans (hW.mono HB.out.size))).1 (HT.out.below (HB.out.trans (hW.mono HB.out.size))).2 (by omega))
    clear hb3 hS hBt hbb hb13 hz
    go_wp2
    clear hW1 hg0
    go_loopw [9] (fun i wr => ∃ k : Nat, k ≤ n ∧ i = .int .i64 (k : Int) ∧ Hid (FInv W1 wr)) (fun i _ => n - (intOf i).toNat)
    case atStart => exact ⟨0, Nat.zero_le _, rfl, Below.refl _ _⟩
    case round =>
      obtain ⟨k, hk, rfl, HJ⟩ := hrel
      have hsz := HJ.out.size
      by_cases hkn : k < n
      · have hk2 : (k : Int) < n := by omega
        have hkl : k < es.length := by rw [HEW.out.len]; exact hkn
        obtain ⟨ad, rfl, hbl, c0, c1, c2, -⟩ := (HEW.out.below HJ.out).2 k hkl
        have HU := Lib.hid (fun (h1 : countsP es[k].doc es[k].field = true) (h2 : ¬ AheadE es k) => used_of hkl h1 h2)
        have HTX := Lib.hid (HFEW.out.2 _ (List.getElem_mem hkl))
        obtain ⟨en, hen⟩ : ∃ e, es[k]'hkl = e := ⟨_, rfl⟩
        rw [hen] at c0 c1 c2 HU HTX
        obtain ⟨d, f, tx⟩ := en
        dsimp only at c0 c1 c2
        clear hen
        have HAH := Lib.hid (fun W (hW : Below W1.heap.size W1 W) => ahead_any (some ad) n c k es W ((HEW.out.below hW).more hW.size) hkn (by omega))
        clear hkl
        by_cases q0 : 1 ≤ f
        rotate_left
        · have e0 : decide (f < 1) = true := decide_eq_true (by omega)
          go_wp2
          go_roundw
          case rel => exact ⟨k + 1, by omega, by go_num, HJ.out⟩
          case measure => simp [intOf] <;> omega
        have e0 : decide (f < 1) = false := decide_eq_false (by omega)
        by_cases q1 : f ≤ 5
        rotate_left
        · have e1 : decide ((5 : Int) < f) = true := decide_eq_true (by omega)
          go_wp2
          go_roundw
          case rel => exact ⟨k + 1, by omega, by go_num, HJ.out⟩
          case measure => simp [intOf] <;> omega
        have e1 : decide ((5 : Int) < f) = false := decide_eq_false (by omega)
        by_cases q2 : 1 ≤ d
        rotate_left
        · have e2 : decide (d < 1) = true := decide_eq_true (by omega)
          go_wp2
          go_roundw
          case rel => exact ⟨k + 1, by omega, by go_num, HJ.out⟩
          case measure => simp [intOf] <;> omega
        have e2 : decide (d < 1) = false := decide_eq_false (by omega)
        by_cases q3 : d ≤ 1099511627776
        rotate_left
        · have e3 : decide ((1099511627776 : Int) < d) = true := decide_eq_true (by omega)
          go_wp2
          go_roundw
          case rel => exact ⟨k + 1, by omega, by go_num, HJ.out⟩
          case measure => simp [intOf] <;> omega
        have e3 : decide ((1099511627776 : Int) < d) = false := decide_eq_false (by omega)
        have HCT := Lib.hid ((countsP_iff (d := d) (f := f)).2 ⟨⟨q2, show d ≤ far from q3⟩, q0, q1⟩)
        go_wp2_with fail
        refine (HAH.out wr HJ.out).mono ?_
        rintro e w5 ⟨b, rfl, hab, hb5⟩
        have HJ5 := Lib.hid (show Below W1.heap.size W1 w5 from HJ.out.trans (hb5.mono hsz))
        cases b
        rotate_left
        · clear hab hb5
          go_wp2
          go_roundw
          case rel => exact ⟨k + 1, by omega, by go_num, HJ5.out⟩
          case measure => simp [intOf] <;> omega
        have HIN := Lib.hid (HU.out HCT.out (fun h => by have := hab.2 h; cases this))
        have k0 : w5.cell? (ad.add (k * 3)) = some (.int .i64 d) := (hb5.cell (Nat.lt_of_lt_of_le hbl hsz)).trans c0
        have k1 : w5.cell? ⟨(ad.add (k * 3)).block, (ad.add (k * 3)).off + 1, none⟩ = some (.int .i64 f) := (hb5.cell (p := ⟨(ad.add (k * 3)).block, _, none⟩) (Nat.lt_of_lt_of_le hbl hsz)).trans c1
        have k2 : w5.cell? ⟨(ad.add (k * 3)).block, (ad.add (k * 3)).off + 2, none⟩ = some (.string (ba tx)) := (hb5.cell (p := ⟨(ad.add (k * 3)).block, _, none⟩) (Nat.lt_of_lt_of_le hbl hsz)).trans c2
        clear hab hb5 c0 c1 c2 e0 e1 e2 e3
        go_wp2_with fail
        refine (HLIST.out w5 HJ5.out tx HTX.out).mono ?_
        rintro e w6 ⟨vl, rfl, hvl, hb6⟩
        obtain ⟨Al, cl, rfl, -, -, hSt⟩ := hvl.strs
        obtain ⟨m, hm⟩ : ∃ m, (listP tx).length = m := ⟨_, rfl⟩
        have HM := Lib.hid hm
        have HST := Lib.hid hSt
        have hml : m ≤ 200 := by have := list_few tx; have := HTX.out; omega
        rw [hm] at HST ⊢
        have h56 := hb6.size
        have HB16 := Lib.hid (HJ5.out.trans (hb6.mono HJ5.out.size))
        have HENT := Lib.hid (fun (j : Nat) => next_entry HBT.out HGOOD.out HEF.out HIN.out x y j)
        have HFA := Lib.hid (look_fine HBT.out HGOOD.out HEF.out (field := f) (by omega) x)
        have HFB := Lib.hid (look_fine HBT.out HGOOD.out HEF.out (field := f) (by omega) y)
        have hadl : (ad.add (k * 3)).block < w6.heap.size := by have := HJ5.out.size; omega
        have hg6 : g < w6.heap.size := by have := HJ5.out.size; omega
        have z0 : w6.cell? (ad.add (k * 3)) = some (.int .i64 d) := (hb6.cell (by have := HJ5.out.size; omega)).trans k0
        have z9 : w6.cell? ⟨(ad.add (k * 3)).block, (ad.add (k * 3)).off + 1, none⟩ = some (.int .i64 f) := (hb6.cell (p := ⟨(ad.add (k * 3)).block, _, none⟩) (by have := HJ5.out.size; show (ad.add (k * 3)).block < _; omega)).trans k1
        have z1 : w6.cell? ⟨g, 0, none⟩ = some (.slice A3 n3 c3) := (HB16.out.cell (p := ⟨g, 0, none⟩) hgw).trans g0
        have z2 : w6.cell? ⟨g, 1, none⟩ = some (.slice D3 m3 d3) := (HB16.out.cell (p := ⟨g, 1, none⟩) hgw).trans g1
        have HLX := Lib.hid (fun (W : World) (hW : Below W1.heap.size W1 W) => HLOOK.out W hW f x)
        have HLY := Lib.hid (fun (W : World) (hW : Below W1.heap.size W1 W) => HLOOK.out W hW f y)
        rw [HXB.out] at HLX
        rw [HYB.out] at HLY
        clear hb6 hvl hSt hm k0 k1 k2
        go_wp2
        go_cut [11] (fun v wc => Hid (NRel w6 (nextP 1 (lookP s f x) (lookP s f y)) v wc))
        case first =>
          go_region_law
            (first
              | (go_simp; go_at_call 23; refine (HLX.out w6.drew HB16.out.drew).mono ?_; intro e v1 hpost; (
                  obtain ⟨Ap, np, cp, rfl, hpo, hnp, hnc, hcm, hb⟩ := look_form HSF.out hpost
                  have HPO := Lib.hid hpo
                  have HBV := Lib.hid (show Below w6.heap.size w6 v1 from ⟨hb.os, hb.tape, hb.output, hb.size, hb.block⟩)
                  have x0 : v1.cell? ⟨(ad.add (k * 3)).block, (ad.add (k * 3)).off + 1, none⟩ = some (.int .i64 f) := (HBV.out.cell (p := ⟨(ad.add (k * 3)).block, _, none⟩) hadl).trans z9
                  have x1 : v1.cell? ⟨g, 0, none⟩ = some (.slice A3 n3 c3) := (HBV.out.cell (p := ⟨g, 0, none⟩) hg6).trans z1
                  have x2 : v1.cell? ⟨g, 1, none⟩ = some (.slice D3 m3 d3) := (HBV.out.cell (p := ⟨g, 1, none⟩) hg6).trans z2
                  clear hpo hb hpost HLX))
              | (go_simp; go_at_call 23; refine (HLY.out v1 (HB16.out.trans (HBV.out.mono HB16.out.size))).mono ?_; intro e v2 hpost; (
                  obtain ⟨Aq, nq, cq, rfl, hpo, hnq, hnc2, hcm2, hb⟩ := look_form HSF.out hpost
                  have HQO := Lib.hid hpo
                  have HPO2 := Lib.hid ((HPO.out.below hb).more hb.size)
                  have HBV2 := Lib.hid (HBV.out.trans (hb.mono HBV.out.size))
                  clear hpo hb hpost HLY))
              | (go_simp; go_at_call 31; (refine (next_any Ap Aq np nq cp cq 1 _ _ v2 HPO2.out HQO.out hnc hcm hnc2 hcm2 HFA.out.1 HFB.out.1 (by decide) (by decide) (by have h1 := (look_small HSF.out f (fun w => decide (w = x))).1; have h2 := (look_small HSF.out f (fun w => decide (w = y))).1; show (foundP s f fun w => decide (w = x)).length + (foundP s f fun w => decide (w = y)).length ≤ _; omega)
                  (fun q hq => by have := (look_small HSF.out f (fun w => decide (w = x))).2 q hq; omega) (fun q hq => by have := (look_small HSF.out f (fun w => decide (w = y))).2 q hq; omega) HFB.out.2).mono ?_; rintro e v3 ⟨vn, pn, rfl, hown, hps, hb⟩); (
                  obtain ⟨An, cn, rfl, -, -, hpo⟩ := hown.posts
                  rw [hps] at hpo
                  have HN3 := Lib.hid hpo
                  have HNL := Lib.hid (show pn.length = (nextP 1 (lookP s f x) (lookP s f y)).length by have h := congrArg List.length hps; rw [List.length_map] at h; exact h)
                  have HBV3 := Lib.hid (HBV2.out.trans (hb.mono HBV2.out.size))
                  obtain ⟨ln, hln⟩ : ∃ ln, pn.length = ln := ⟨_, rfl⟩
                  rw [hln] at HN3 HNL ⊢
                  clear hown hps hb hpo hln))
              | fail)
          all_goals
            have HFIN := Lib.hid (show NRel w6 (nextP 1 (lookP s f x) (lookP s f y)) (.slice An ln cn) v3 from ⟨An, ln, cn, rfl, HN3.out, HNL.out, HBV3.out⟩)
            go_wp2
            go_meet
            case rel => exact HFIN
        case rest =>
          obtain ⟨An, ln, cn, rfl, hn3, hnlen, hbv3⟩ := hcut.out
          have HN3 := Lib.hid hn3
          have HBV3 := Lib.hid hbv3
          have hnl : ln ≤ 500000000 := by
            have h := next_small (HSF.out) f x y
            omega
          have HPP := Lib.hid (next_places (gap := 1) HFA.out.1 HFB.out.1 (N := 1000000000) (fun q hq => by have := (look_small HSF.out f (fun w => decide (w = y))).2 q hq; omega))
          obtain ⟨v3, rfl⟩ : ∃ v3, v3 = wc := ⟨_, rfl⟩
          have hv3 := HBV3.out.size
          clear hn3 hnlen hbv3 hcut
          obtain ⟨W4, rfl⟩ : ∃ W4, W4 = wr := ⟨_, rfl⟩
          go_wp2
          go_loopw [12] (fun i wr => ∃ q : Nat, q ≤ m + 1 ∧ i = .int .i64 (q : Int) ∧ Hid (Below v3.heap.size v3 wr)) (fun i _ => m + 1 - (intOf i).toNat)
          case atStart => exact ⟨0, Nat.zero_le _, rfl, Below.refl _ _⟩
          case round =>
            obtain ⟨q, hq, rfl, HQ⟩ := hrel
            have hqz := HQ.out.size
            have hb6w : Below w6.heap.size w6 wr := HBV3.out.trans (HQ.out.mono hv3)
            have HB6W := Lib.hid hb6w
            have y9 : wr.cell? (ad.add (k * 3)) = some (.int .i64 d) := (hb6w.cell hadl).trans z0
            have HNW := Lib.hid ((HN3.out.below HQ.out).more hqz)
            by_cases hqm : q ≤ m
            rotate_left
            · have dq : decide ((q : Int) ≤ m) = false := decide_eq_false (by omega)
              go_wp2
              go_roundw
              case rel => exact ⟨k + 1, by omega, by go_num, HB16.out.trans (HB6W.out.mono HB16.out.size)⟩
              case measure => simp [intOf] <;> omega
            have dq : decide ((q : Int) ≤ m) = true := decide_eq_true (by omega)
            have HHAS := Lib.hid (HENT.out q)
            by_cases hq0 : 0 < q
            rotate_left
            · have dq0 : decide ((0 : Int) < q) = false := decide_eq_false (by omega)
              have HNO := Lib.hid (show ¬ Has (nextP 1 (lookP s f x) (lookP s f y)) d (q : Int) from fun h => by have := (HHAS.out.1 h).1; omega)
              go_wp2_with fail
              refine (stands_any An ln cn _ d (q : Int) wr HNW.out (by omega) HPP.out).mono ?_
              rintro e w9 ⟨b, rfl, hb, rfl⟩
              obtain rfl : b = false := by
                cases b
                · rfl
                · exact absurd (hb.1 rfl) HNO.out
              go_wp2
              go_roundw
              case rel => exact ⟨q + 1, by omega, by go_num, HQ.out⟩
              case measure => simp [intOf] <;> omega
            have dq0 : decide ((0 : Int) < q) = true := decide_eq_true (by omega)
            by_cases hqm2 : q < m
            rotate_left
            · have dqm : decide ((q : Int) < m) = false := decide_eq_false (by omega)
              have HNO := Lib.hid (show ¬ Has (nextP 1 (lookP s f x) (lookP s f y)) d (q : Int) from fun h => by
                have h1 := (HHAS.out.1 h).2.2
                have h2 := (List.getElem?_eq_some_iff.1 h1).1
                rw [HM.out] at h2
                omega)
              go_wp2_with fail
              refine (stands_any An ln cn _ d (q : Int) wr HNW.out (by omega) HPP.out).mono ?_
              rintro e w9 ⟨b, rfl, hb, rfl⟩
              obtain rfl : b = false := by
                cases b
                · rfl
                · exact absurd (hb.1 rfl) HNO.out
              go_wp2
              go_roundw
              case rel => exact ⟨q + 1, by omega, by go_num, HQ.out⟩
              case measure => simp [intOf] <;> omega
            have dqm : decide ((q : Int) < m) = true := decide_eq_true (by omega)
            have hq2 : (q : Int) < m := by omega
            have hqi : (q : Int) - 1 = ((q - 1 : Nat) : Int) := by omega
            have hwr : IntKind.i64.wrap ((q : Int) - 1) = ((q - 1 : Nat) : Int) := by rw [hqi]; exact IntWalk.i64_in _ (by omega)
            have hq3 : (((q - 1 : Nat) : Int)) < m := by omega
            have hql : q < (listP tx).length := by rw [HM.out]; exact hqm2
            have hql1 : q - 1 < (listP tx).length := by omega
            obtain ⟨al, rfl, hal, cw⟩ := HST.out.at_ hql
            obtain ⟨_, e, hal1, cw1⟩ := HST.out.at_ hql1
            injection e with e
            subst e
            have y3 : wr.cell? (al.add q) = some (.string (ba (listP tx)[q])) := (hb6w.cell (by rw [add_block]; exact hal)).trans cw
            have y4 : wr.cell? (al.add (q - 1)) = some (.string (ba (listP tx)[q - 1])) := (hb6w.cell (by rw [add_block]; exact hal1)).trans cw1
            rw [List.getElem?_eq_getElem hql, List.getElem?_eq_getElem hql1] at HHAS
            obtain ⟨u, hu⟩ : ∃ u, (listP tx)[q]'hql = u := ⟨_, rfl⟩
            obtain ⟨v, hv⟩ : ∃ v, (listP tx)[q - 1]'hql1 = v := ⟨_, rfl⟩
            rw [hu] at y3 HHAS
            rw [hv] at y4 HHAS
            obtain ⟨ub, hub⟩ : ∃ ub, ba u = ub := ⟨_, rfl⟩
            obtain ⟨vb, hvb⟩ : ∃ vb, ba v = vb := ⟨_, rfl⟩
            have q8 : (vb.toList == xb.toList) = decide (v = x) := by
              rw [← hvb, ← HXB.out, ba_toList, ba_toList]
              by_cases e : v = x <;> simp [e]
            have q9 : (ub.toList == yb.toList) = decide (u = y) := by
              rw [← hub, ← HYB.out, ba_toList, ba_toList]
              by_cases e : u = y <;> simp [e]
            rw [hub] at y3
            rw [hvb] at y4
            clear hu hv cw cw1 hub hvb hqi
            by_cases hvx : v = x
            rotate_left
            · rw [decide_eq_false hvx] at q8
              have HNO := Lib.hid (show ¬ Has (nextP 1 (lookP s f x) (lookP s f y)) d (q : Int) from fun h => hvx (Option.some.inj (HHAS.out.1 h).2.1))
              clear q9
              go_wp2_with fail
              refine (stands_any An ln cn _ d (q : Int) wr HNW.out (by omega) HPP.out).mono ?_
              rintro e w9 ⟨b, rfl, hb, rfl⟩
              obtain rfl : b = false := by
                cases b
                · rfl
                · exact absurd (hb.1 rfl) HNO.out
              go_wp2
              go_roundw
              case rel => exact ⟨q + 1, by omega, by go_num, HQ.out⟩
              case measure => simp [intOf] <;> omega
            rw [decide_eq_true hvx] at q8
            by_cases huy : u = y
            rotate_left
            · rw [decide_eq_false huy] at q9
              have HNO := Lib.hid (show ¬ Has (nextP 1 (lookP s f x) (lookP s f y)) d (q : Int) from fun h => huy (Option.some.inj (HHAS.out.1 h).2.2))
              go_wp2_with fail
              refine (stands_any An ln cn _ d (q : Int) wr HNW.out (by omega) HPP.out).mono ?_
              rintro e w9 ⟨b, rfl, hb, rfl⟩
              obtain rfl : b = false := by
                cases b
                · rfl
                · exact absurd (hb.1 rfl) HNO.out
              go_wp2
              go_roundw
              case rel => exact ⟨q + 1, by omega, by go_num, HQ.out⟩
              case measure => simp [intOf] <;> omega
            rw [decide_eq_true huy] at q9
            have HYES := Lib.hid (HHAS.out.2 ⟨hq0, by rw [hvx], by rw [huy]⟩)
            clear hvx huy
            go_wp2_with fail
            refine (stands_any An ln cn _ d (q : Int) wr HNW.out (by omega) HPP.out).mono ?_
            rintro e w9 ⟨b, rfl, hb, rfl⟩
            obtain rfl : b = true := hb.2 HYES.out
            clear q8 q9 hwr hb
            go_wp2
            go_roundw
            case rel => exact ⟨q + 1, by omega, by go_num, HQ.out⟩
            case measure => simp [intOf] <;> omega
      · go_wp2
        go_ret
        exact ⟨rfl, HB.out.trans (HJ.out.mono HB.out.size)⟩
end Go.Proofs.YtfinpehbpcckaaaGreatDoor
