/- Layer 34: the second half of Build (printed by gen_buildTwo.py). -/
import Derived.Test.YtfinpehbpcckaaaGreatDoorBuildH
namespace Go.Proofs.YtfinpehbpcckaaaGreatDoor
open Go.RowKit
set_option linter.unusedVariables false

set_option maxRecDepth 100000 in
set_option maxHeartbeats 16000000 in
theorem build_two : TwoSays := by
  unfold TwoSays
  intro t0 t1 t6 t7 t8 t9 t10 t11 t12 t13 t14 t15 t16 t17 t18 t19 t20 t21 t22 t23 t24 t25 t26 t27 t28 t29 t30 t31 t32 t33 t34 t35 t36 t37 t38 t39 t40 t41 t42 t43 t44 t45 t46 t47 t48 t49 t50 t51 t52 t53 t54 t55 t56 t57 t58 t59 t60 t61 t62 t63 t64 t65 t66 t67 t68 t69 t70 t71 t72 t73 t74 t75 t76 t77 t78 t79 t80 t81 t82 t83 t84 t85 t86 t87 t88 t89 t90 t91 t92 t93 t94 t95 t96 t97 t98 t99 t100 t101 t102 t103 t104 t105 t106 t107 t108 t109 t110 t111 t112 t113 t114 t115 t116 t117 t118 t119 t120 t121 t122 t123 es w g wr hf0 hg0 hrel0
  have HF := Lib.hid hf0
  have HG := Lib.hid hg0
  obtain ⟨cc, tag, km, hcc, hst⟩ := hrel0
  have htk : es.take es.length = es := List.take_length
  have hn9 := hf0.len
  clear hf0 hg0
  have hgood := used_goods HF.out
  have hevl := (HF.out.evs es.length).1
  rw [htk] at hcc hst hevl
  obtain ⟨U, hU⟩ : ∃ U, usedE es = U := ⟨_, rfl⟩
  rw [hU] at hcc hst hgood hevl
  have HGOOD := Lib.hid hgood
  have HUE := Lib.hid hU
  have HULEN : Hid (U.length ≤ 1000) := Lib.hid (by have h1 := usedE_len es []; have h2 := HF.out.len; rw [← hU]; simp only [List.length_nil] at h1; unfold usedE; omega)
  have HFRESH0 := Lib.hid hst.terms.fresh
  have HEVL := Lib.hid hevl
  have HC9 : Hid (cc ≤ 1099511627776) := Lib.hid (by omega)
  have hgl := heap_lt hst.box
  have hTl := hst.terms.lt (b := g + 1 + 1 + 1) (by rw [hst.terms.top]; simp)
  obtain ⟨w5, cnt, hrng, hR, hg5, hs5⟩ := hst.terms.map.range Tryz.underlying55
  have HB5 := Lib.hid (show Below wr.heap.size wr w5 from ⟨hg5.os, hg5.tape, hg5.output, hg5.size, fun i hi => hg5.block i hi (by simp)⟩)
  have HST := Lib.hid (hst.below HB5.out)
  have HINI := Lib.hid (show LRel w5 g wr.heap.size (g + 1 + 1 + 1) U km cc w5 from ⟨[], .slice none 0 0, cnt, hR, (hst.below HB5.out).box, OwnTrms.nil_ _ _, Off.refl _ _⟩)
  obtain ⟨W0, rfl⟩ : ∃ W0, W0 = wr := ⟨_, rfl⟩
  obtain ⟨r, hr⟩ : ∃ r, W0.heap.size = r := ⟨_, rfl⟩
  have HRR := Lib.hid hr
  rw [hr] at hrng hs5 HINI hgl hTl HFRESH0
  have HFRESH : Hid (∀ i, r ≤ i → tag i = .out) := HFRESH0
  have HSZ5 := Lib.hid hs5
  clear hst hR hg5 hr hgood hcc hevl htk hU
  unfold build2
  simp only [codeTail, Tryz.f11, Option.getD_some]
  go_wp2
  go_loopw [] (fun wr => Hid (LRel w5 g r (g + 1 + 1 + 1) U km cc wr)) (fun wr => wr.rangeLeft (g + 1 + 1 + 1) r)
  case atStart => exact HINI.out
  case round =>
    obtain ⟨L, v, cnt, hR, hbx, hown, hoff⟩ := hrel.out
    have HCNT := Lib.hid hR.left_eq
    have HRL := Lib.hid hR
    have HBX := Lib.hid hbx
    have HOWN := Lib.hid hown
    have HOFF := Lib.hid hoff
    obtain ⟨A0, c0, rfl, hc1, hc2⟩ := hown.shape
    obtain ⟨q, hq⟩ : ∃ q, (L.map (mkT U)).length = q := ⟨_, rfl⟩
    have HQ := Lib.hid hq
    rw [hq] at hc1 HBX HOWN
    have hqL : q = L.length := by rw [← hq, List.length_map]
    have hLB : q ≤ 200001000 := by have h1 := keys_len hR.keys (fun t ht => HST.out.terms.keys t ht); have h2 := HEVL.out; omega
    have hsz := hoff.size
    have hnx := hR.next 0
    clear hR hbx hown hoff hq hqL
    rcases hnx with ⟨hall, hrun⟩ | ⟨x, u, w6, cnt6, hxf, hkx, hxL, hrun, hR6, hlt, hg6, hsz6, hent⟩
    · as_aux_lemma =>
        have hrun1 : (Instr.next (.pointer (some ⟨r, 0, none⟩)) false 0).run Tryz.prog wr = .ok (.tuple #[.bool false]) wr := hrun
        have hgw : g < wr.heap.size := heap_lt HBX.out
        obtain ⟨y0, y1, y2, y3⟩ := box0 HBX.out
        have hgw5 : g < w5.heap.size := by have := HSZ5.out; omega
        have HKD := Lib.hid (And.intro HRL.out.keys hall)
        have HSORT := Lib.hid (sortT_any wr w5.heap.size (.slice A0 q c0) (L.map (mkT U)) HOWN.out (by rw [HQ.out]; omega))
        have hne8 : ∀ i, (Value.slice A0 q c0).ownBlock = some i → w5.heap.size ≤ i := fun i e => (HOWN.out.row.lt i e).1
        obtain ⟨W1, rfl⟩ : ∃ W1, W1 = wr := ⟨_, rfl⟩
        clear hrun hall y2 y3 y1
        go_wp2_with fail
        refine HSORT.out.mono ?_
        rintro e w10 ⟨rfl, ts', hperm, hsorted, hown10, hg10⟩
        have hbx10 : w10.heap[g]? = some (.cells #[.slice A0 q c0, .slice none 0 0] 28 (0, 0)) := (hg10.block g hgw (fun e => by have := hne8 g e.symm; omega)).trans HBX.out
        have HO10 := Lib.hid (show Off (fun b => b = g ∨ b = r ∨ w5.heap.size ≤ b) w5 w10 from (HOFF.out.mono fun i _ h => h.elim .inl fun h => .inr (.inl h)).grown hg10 fun i e => .inl (.inr (.inr (hne8 i e))))
        have hdl := HST.out.docs.lt
        obtain ⟨fD, hD1, hD2⟩ := HST.out.docs.keep (w' := w10) (HO10.out.block (g + 1 + 1) hdl (by have := HSZ5.out; rintro (e | e | e) <;> omega))
        have HD1 := Lib.hid hD1
        have HD2 := Lib.hid hD2
        have HOWN10 := Lib.hid hown10
        have HPS := Lib.hid (And.intro hperm hsorted)
        have HBX10 := Lib.hid hbx10
        have hgw10 : g < w10.heap.size := heap_lt hbx10
        have h510 : w5.heap.size ≤ w10.heap.size := HO10.out.size
        clear hD1 hD2 hown10 hperm hsorted hg10 hbx10 hdl
        go_wp2_with fail
        refine (keysB_call (some (g + 1 + 1)) w10).mono ?_
        rintro e w11 ⟨rfl, rfl⟩
        go_wp2_with fail
        refine (sortedB_call (g + 1 + 1) w10 _ rfl HD1.out HC9.out).mono ?_
        rintro e w12 ⟨v2, ds, rfl, hds, hasc, hmem, hb⟩
        obtain ⟨DD, dc, rfl, hd1, hd2, hdi⟩ := hds.ints
        obtain ⟨m, hm⟩ : ∃ m, ds.length = m := ⟨_, rfl⟩
        have HM := Lib.hid hm
        rw [hm] at hd1 hdi hds ⊢
        have hz11 : (w10.alloc (.cells #[.map (some (g + 1 + 1))] 54)).heap.size = w10.heap.size + 1 := by simp
        have hb12 : Below w10.heap.size w10 w12 := ((Below.refl _ w10).alloc (Nat.le_refl _) _).trans (hb.mono (by omega))
        have hbx12 : w12.heap[g]? = some (.cells #[.slice A0 q c0, .slice none 0 0] 28 (0, 0)) := (hb12.block g hgw10).trans HBX10.out
        have HOW12 := Lib.hid (HOWN10.out.below hb12)
        have HDS := Lib.hid hds
        have HAM := Lib.hid (And.intro hasc hmem)
        have HB12 := Lib.hid hb12
        have HBD := Lib.hid (fun i e => by have h := (hds.1.lt i e).1; rw [hz11] at h; exact (show g < i by omega) : ∀ i, (Value.slice DD m dc).ownBlock = some i → g < i)
        have HBT := Lib.hid (fun i e => by have h := hne8 i e; exact (show g < i by omega) : ∀ i, (Value.slice A0 q c0).ownBlock = some i → g < i)
        obtain ⟨s0, s1, s2, s3, s4, s5, s6, s7, s8, s9⟩ := res_three (y := .slice DD m dc) hbx12
        have S8 := Lib.hid s8
        have S9 := Lib.hid s9
        clear hds hasc hmem hb hb12 hbx12 s8 s9 hdi hz11 hne8
        go_wp2
        have z4 := S8.out
        have z5 := S9.out
        refine bodyPost_ret (v := .agg #[.slice A0 q c0, .slice DD m dc]) (by simp [results, go_sem, z4, z5]) rfl ?_
        have hwg : w.heap.size = g := HG.out
        have hB5 : Below w.heap.size w w5 := HST.out.bel
        have hB10 : Below w.heap.size w w10 := hB5.trans (HO10.out.below (by omega) fun i e => by have := HSZ5.out; rcases e with e | e | e <;> omega)
        have hB12 : Below w.heap.size w w12 := hB10.trans (HB12.out.mono (by omega))
        refine ⟨((hB12.setCell (p := ⟨g, 1, none⟩) (by show _ ≤ g; omega) _).setCell (p := ⟨g, 0, none⟩) (by show _ ≤ g; omega) _).setCell (p := ⟨g, 1, none⟩) (by show _ ≤ g; omega) _, A0, q, c0, DD, m, dc, ⟨ts', ds⟩, rfl, ?_, ?_⟩
        · refine seg_of (B1 := (w10.alloc (.cells #[.map (some (g + 1 + 1))] 54)).heap.size) (B2 := w5.heap.size) ?_ ?_ ?_ HM.out
          · refine HDS.out.block fun i e => ?_
            have hi := HBD.out i e
            rw [heap_setCell_other _ _ _ _ (by show ¬ i = g; omega), heap_setCell_other _ _ _ _ (by show ¬ i = g; omega), heap_setCell_other _ _ _ _ (by show ¬ i = g; omega)]
          · refine HOW12.out.block fun i e => ?_
            have hi := HBT.out i e
            rw [heap_setCell_other _ _ _ _ (by show ¬ i = g; omega), heap_setCell_other _ _ _ _ (by show ¬ i = g; omega), heap_setCell_other _ _ _ _ (by show ¬ i = g; omega)]
          · rw [HPS.out.1.length_eq, HQ.out]
        · rw [HUE.out]
          refine built_of HGOOD.out HKD.out.1.1 HKD.out.1.2 HKD.out.2 (fun t ht => HST.out.terms.keys t ht) HPS.out.1 (HPS.out.2.imp fun {a b} h => by omega) HAM.out.1 fun d => ?_
          rw [HAM.out.2]
          constructor
          · rintro ⟨hf, hn⟩
            have hin : d ∈ U.map (·.doc) := Classical.byContradiction fun h => hn ((HD2.out d hf).2 h)
            obtain ⟨y, hy, h1⟩ := List.mem_map.1 hin
            exact ⟨y, hy, h1⟩
          · rintro ⟨y, hy, rfl⟩
            have hf := (countsP_fits (HGOOD.out.counts y hy)).2
            refine ⟨hf, ?_⟩
            rw [(HD2.out _ hf).1 (List.mem_map.2 ⟨y, hy, rfl⟩)]
            simp
    · as_aux_lemma =>
        have htm := HST.out.terms
        have hinn := htm.inn x u hxf hkx
        obtain ⟨f, s⟩ := x
        obtain ⟨bI, dm, rfl, t1, t2, t3, t4⟩ := hinn
        have hrun1 : (Instr.next (.pointer (some ⟨r, 0, none⟩)) false 0).run Tryz.prog wr = .ok (.tuple #[.bool true, .agg #[.int .i64 f, .string (ba s)], .map (some bI)]) w6 := hrun
        have hent1 : (Instr.entry (.pointer (some ⟨r, 0, none⟩))).run Tryz.prog w6 = .ok (.tuple #[.agg #[.int .i64 f, .string (ba s)], .map (some bI)]) w6 := hent
        have hbIl := htm.lt (b := bI) (by rw [t1]; simp)
        have hbIg : bI ≠ g := fun e => by have h0 := HST.out.out.2.2; rw [← e, t1] at h0; cases h0
        have hrw : ∀ i, tag i ≠ .out → i < r := fun i hi => by
          rcases Nat.lt_or_ge i r with h1 | h1
          · exact h1
          · exfalso
            exact hi (HFRESH.out i h1)
        have hbIr : bI < r := hrw bI (by rw [t1]; simp)
        have hgr : g ≠ r := by omega
        have hTr : g + 1 + 1 + 1 < r := hTl
        have HT3 := Lib.hid t3
        -- what w6 keeps of w5
        have HO6 := Lib.hid (show Off (fun b => b = g ∨ b = r) w5 w6 from HOFF.out.grown hg6 fun i e => .inl (.inr (Option.some.inj e).symm))
        have HBX6 := Lib.hid ((hg6.block g (heap_lt HBX.out) (by simp; omega)).trans HBX.out)
        have HOWN6 := Lib.hid (show OwnTrms w6 w5.heap.size (.slice A0 q c0) (L.map (mkT U)) from HOWN.out.block fun i e => hg6.block i (HOWN.out.row.lt i e).2 (by
          have h1 := (HOWN.out.row.lt i e).1
          have h2 := HSZ5.out
          intro e2
          have e3 := Option.some.inj e2
          omega))
        have HDM := Lib.hid (t2.keep (w' := w6) (HO6.out.block bI hbIl (by rintro (e | e) <;> omega)))
        have HROWS := Lib.hid (fun (d : Int) (v : Value) (hv : dm d = some v) => show OwnInts w6 w.heap.size v (placesE (evsOf U) (f, s) d) ∧ ∀ i, v.ownBlock = some i → i < r from
          ⟨(t4 d v hv).1.block fun i e => HO6.out.block i ((t4 d v hv).1.1.lt i e).2 (by
            have h1 := (t4 d v hv).2 i e
            have h2 := hrw i (by rw [h1]; simp)
            rintro (e2 | e2)
            · have h0 := HST.out.out.2.2
              rw [← e2, h1] at h0; cases h0
            · omega), fun i e => hrw i (by rw [(t4 d v hv).2 i e]; simp)⟩)
        have HR6 := Lib.hid hR6
        have HLT := Lib.hid hlt
        have hgw6 : g < w6.heap.size := heap_lt HBX6.out
        have hw56 : w5.heap.size ≤ w6.heap.size := HO6.out.size
        have HXF := Lib.hid hxf
        have HSZ6 := Lib.hid hsz6
        clear htm t1 t2 t3 t4 hg6 hR6 hlt hrun hent hxf hbIl hrw hsz6
        have hbK : Below w6.heap.size w6 (w6.alloc (.cells #[.int .i64 f, .string (ba s)] 60)) := (Below.refl _ _).alloc (Nat.le_refl _) _
        have k0 : (w6.alloc (.cells #[.int .i64 f, .string (ba s)] 60)).cell? ⟨w6.heap.size, 0, none⟩ = some (.int .i64 f) := by go_simp
        have k1 : (w6.alloc (.cells #[.int .i64 f, .string (ba s)] 60)).cell? ⟨w6.heap.size, 1, none⟩ = some (.string (ba s)) := by go_simp
        have hzK : (w6.alloc (.cells #[.int .i64 f, .string (ba s)] 60)).heap.size = w6.heap.size + 1 := by simp
        obtain ⟨be, hbe⟩ : ∃ be, w6.heap.size = be := ⟨_, rfl⟩
        rw [hbe] at k0 k1 hzK hgw6
        have HMK := Lib.hid (HDM.out.keep (hbK.block bI HDM.out.lt))
        obtain ⟨W7, hW7⟩ : ∃ W7, w6.alloc (.cells #[.int .i64 f, .string (ba s)] 60) = W7 := ⟨_, rfl⟩
        rw [hW7] at hbK k0 k1 hzK HMK
        have HZK := Lib.hid hzK
        have HBK := Lib.hid hbK
        clear hzK hbK
        go_wp2_with fail
        refine (keysA_call (some bI) W7).mono ?_
        rintro e w8 ⟨rfl, rfl⟩
        go_wp2_with fail
        refine (sortedA_call bI W7 _ rfl HMK.out HC9.out).mono ?_
        rintro e w9 ⟨vk, ks, rfl, hks, hasc, hmem, hb9⟩
        obtain ⟨Ak, ck, rfl, hck1, hck2, hki⟩ := hks.ints
        obtain ⟨m, hm⟩ : ∃ m, ks.length = m := ⟨_, rfl⟩
        have HM := Lib.hid hm
        have HKP := Lib.hid (ks_posts (t := (f, s)) HGOOD.out hasc hmem HT3.out)
        have HMEM := Lib.hid hmem
        rw [hm] at hck1 hki ⊢
        have hb79 : Below W7.heap.size W7 w9 := ((Below.refl _ W7).alloc (Nat.le_refl _) _).trans (hb9.mono (by simp))
        have hzK := HZK.out
        have HB69 := Lib.hid (HBK.out.trans (hb79.mono (by omega)))
        have q0 : w9.cell? ⟨be, 0, none⟩ = some (.int .i64 f) := (hb79.cell (p := ⟨be, 0, none⟩) (by show be < _; omega)).trans k0
        have q1 : w9.cell? ⟨be, 1, none⟩ = some (.string (ba s)) := (hb79.cell (p := ⟨be, 1, none⟩) (by show be < _; omega)).trans k1
        have hs9 : be + 1 ≤ w9.heap.size := by have := hb79.size; omega
        have HKI := Lib.hid hki
        have HKB := Lib.hid hks.2
        have hmf : m ≤ 1000 := by
          have h1 : (ks.map (fun d => (⟨d, placesE (evsOf U) (f, s) d⟩ : Post))).length = m := by rw [List.length_map, hm]
          rw [HKP.out] at h1
          have h2 := postsE_few U (f, s)
          rw [h1] at h2
          have h3 := HULEN.out
          omega
        have HKI0 := Lib.hid (show KRel w9 (evsOf U) (f, s) ks 0 (.slice none 0 0) w9 from ⟨[], OwnPosts.nil_ _ _, rfl, Below.refl _ _⟩)
        obtain ⟨W1, rfl⟩ : ∃ W1, W1 = wr := ⟨_, rfl⟩
        clear hks hasc hmem hb9 hb79 hki k0 k1 hrun1 hent1 hm hW7 hzK hbe
        go_wp2
        go_loopw [14, 91] (fun pv i wr => ∃ k : Nat, k ≤ m ∧ i = .int .i64 (k : Int) ∧ Hid (KRel w9 (evsOf U) (f, s) ks k pv wr)) (fun _ i _ => m - (intOf i).toNat)
        case atStart => exact ⟨0, Nat.zero_le _, rfl, HKI0.out⟩
        case round =>
          obtain ⟨kk, hkm, rfl, HK⟩ := hrel
          obtain ⟨ps, hown, hps, hbl⟩ := HK.out
          have hpl : ps.length = kk := by
            have := congrArg List.length hps
            rw [List.length_map, List.length_map, List.length_take, HM.out] at this
            omega
          obtain ⟨Ap, cp, rfl, hcp1, hcp2, hpo⟩ := hown.posts
          rw [hpl] at hcp1 hpo hown ⊢
          have hws := hbl.size
          have HOP := Lib.hid hown
          have HPS := Lib.hid hps
          have HBL := Lib.hid hbl
          have HPO := Lib.hid hpo
          have HPL := Lib.hid hpl
          by_cases hlt : kk < m
          · as_aux_lemma =>
              have hlt2 : (kk : Int) < m := by omega
              have hkl : kk < ks.length := by rw [HM.out]; exact hlt
              obtain ⟨ad, rfl, hbad, hc0⟩ := HKI.out.at_ hlt
              have hdm := (HMEM.out ks[kk]).1 (List.getElem_mem hkl)
              have htake : (ks.take (kk + 1)).map (fun d => (⟨d, placesE (evsOf U) (f, s) d⟩ : Post)) = (ks.take kk).map (fun d => (⟨d, placesE (evsOf U) (f, s) d⟩ : Post)) ++ [⟨ks[kk], placesE (evsOf U) (f, s) ks[kk]⟩] := by
                rw [List.take_succ_eq_append_getElem hkl, List.map_append]; rfl
              rw [gi_get hkl] at hc0
              have hdb := HKB.out ks[kk] (List.getElem_mem hkl)
              obtain ⟨d, hd⟩ : ∃ d, ks[kk] = d := ⟨_, rfl⟩
              rw [hd] at hdm htake hc0 hdb
              have HTAKE := Lib.hid htake
              have c9 : wr.cell? (ad.add kk) = some (.int .i64 d) := (hbl.cell (by rw [add_block]; exact hbad)).trans hc0
              obtain ⟨u, hu⟩ := Option.ne_none_iff_exists'.1 hdm.2
              obtain ⟨hrow, hrl⟩ := HROWS.out d u hu
              obtain ⟨Xr, cx, rfl, hx1, hx2, hxi⟩ := hrow.ints
              have h69 := HB69.out.size
              have hb6w : Below w6.heap.size w6 wr := HB69.out.trans (hbl.mono h69)
              have lB : (Instr.lookup 61 (.map (some bI)) (.int .i64 d) false).run Tryz.prog wr = .ok (.slice Xr (placesE (evsOf U) (f, s) d).length cx) wr := by
                have := MapAt.look (w := wr) (K := intK) (HDM.out.keep (hb6w.block bI HDM.out.lt)) Tryz.underlying61 (zero26 _) hdm.1
                rw [hu] at this
                exact this
              have HPI := Lib.hid (show PlacesIn wr (Value.slice Ap kk cp).ownBlock (⟨d, placesE (evsOf U) (f, s) d⟩, .slice Xr (placesE (evsOf U) (f, s) d).length cx) from
                ⟨Xr, _, cx, rfl, hx1, hx2, hdb, (hxi.below hb6w).more (by have := hb6w.size; omega), fun hne ad' e => by
                  subst e
                  have h1 := hrl ad'.block rfl
                  intro e2
                  have h2 := (HOP.out.row.lt _ e2).1
                  omega⟩)
              have hB9 : w9.heap.size ≤ wr.heap.size := hws
              have HPN := Lib.hid (show ps.length ≤ 1000000000 by omega)
              obtain ⟨pd, hpd⟩ : ∃ pd : Post, pd = ⟨d, placesE (evsOf U) (f, s) d⟩ := ⟨_, rfl⟩
              obtain ⟨lx, hlx⟩ : ∃ lx, (placesE (evsOf U) (f, s) d).length = lx := ⟨_, rfl⟩
              rw [hlx] at lB HPI
              clear hown hps hbl hpo hrow hxi hdm htake hu hd hc0 hkl hpl HK hlx hpd pd
              go_wp2_with (at_builtin; go_must (refine wpList_pushPost (p := ⟨d, placesE (evsOf U) (f, s) d⟩) HOP.out hB9 HPI.out HPN.out rfl (.tmp 95) (.tmp 101) 1 rfl rfl rfl ?_); intro v' w8 hown1 hg1; have H1 := Lib.hid hown1; have H2 := Lib.hid hg1; clear hown1 hg1)
              go_roundw
              case rel =>
                refine ⟨kk + 1, by omega, by go_num, _, H1.out, ?_, HBL.out.grown H2.out (by omega) fun i e => (HOP.out.row.lt i e).1⟩
                rw [List.map_append, HPS.out, HTAKE.out]; rfl
              case measure => simp [intOf] <;> omega
          · as_aux_lemma =>
              have hkm2 : kk = m := by omega
              subst hkm2
              have hps2 : ps.map (·.1) = postsE (evsOf U) (docsP U) (f, s) := by
                rw [← HKP.out, hps, List.take_of_length_le (by rw [HM.out]; exact Nat.le_refl _)]
              rw [hps2] at hpo
              have HPO := Lib.hid hpo
              have hb6w : Below w6.heap.size w6 wr := HB69.out.trans (hbl.mono HB69.out.size)
              have HB6W := Lib.hid hb6w
              have z0 : wr.cell? ⟨be, 0, none⟩ = some (.int .i64 f) := (hbl.cell (p := ⟨be, 0, none⟩) (by show be < _; omega)).trans q0
              have z1 : wr.cell? ⟨be, 1, none⟩ = some (.string (ba s)) := (hbl.cell (p := ⟨be, 1, none⟩) (by show be < _; omega)).trans q1
              have hbxw : wr.heap[g]? = some (.cells #[.slice A0 q c0, .slice none 0 0] 28 (0, 0)) := (hb6w.block g (by omega)).trans HBX6.out
              obtain ⟨y0, y1, y2, y3⟩ := box0 hbxw
              have HBXW := Lib.hid hbxw
              have hbew : be < wr.heap.size := by omega
              have hgww : g < wr.heap.size := by omega
              have HFEW := Lib.hid (show FewPosts (postsE (evsOf U) (docsP U) (f, s)) from fewPosts_of HGOOD.out HULEN.out (f, s))
              have HFO := Lib.hid (show FieldOk ⟨f, s, postEnc (postsE (evsOf U) (docsP U) (f, s))⟩ from wf64_bounds HXF.out.1)
              obtain ⟨EN, hEN⟩ : ∃ EN, postEnc (postsE (evsOf U) (docsP U) (f, s)) = EN := ⟨_, rfl⟩
              have HEN := Lib.hid hEN
              have HENC := Lib.hid (fun W (h : Posts W W.heap.size Ap kk (postsE (evsOf U) (docsP U) (f, s))) => encode_any Ap kk cp _ W h HFEW.out)
              unfold StrPost at HENC
              rw [hEN] at HENC HFO
              clear hown hps hbl hpo hps2 hpl HK hbxw hb6w y2 y3 hEN HFEW
              go_wp2
              go_region_law
                (first
                  | (go_simp; go_at_call 35; refine (HENC.out wr.drew HPO.out).mono ?_; rintro e v1 ⟨rfl, hb1⟩; (
                      have HV1 := Lib.hid (show Below wr.heap.size wr v1 from ⟨hb1.os, hb1.tape, hb1.output, hb1.size, hb1.block⟩)
                      have hz1 : wr.heap.size ≤ v1.heap.size := hb1.size
                      have p0 : v1.cell? ⟨g, 0, none⟩ = some (.slice A0 q c0) := (HV1.out.cell (p := ⟨g, 0, none⟩) hgww).trans y0
                      have p1 : v1.cell? ⟨be, 0, none⟩ = some (.int .i64 f) := (HV1.out.cell (p := ⟨be, 0, none⟩) hbew).trans z0
                      have p2 : v1.cell? ⟨be, 1, none⟩ = some (.string (ba s)) := (HV1.out.cell (p := ⟨be, 1, none⟩) hbew).trans z1
                      have p3 : (v1.alloc (.cells #[.int .i64 f, .string (ba s), .string (ba EN)] 47)).cell? ⟨g, 0, none⟩ = some (.slice A0 q c0) := (World.cell?_of_block (a := ⟨g, 0, none⟩) (heap_alloc_old v1 _ (by show g < _; omega))).trans p0
                      have HB61 := Lib.hid (HB6W.out.trans (HV1.out.mono (by have := HB6W.out.size; omega)))
                      have HOW1 := Lib.hid (HOWN6.out.block (w' := v1) fun i e => HB61.out.block i (HOWN6.out.row.lt i e).2)
                      have HBX1 := Lib.hid ((HV1.out.block g hgww).trans HBXW.out)
                      have h51 : w5.heap.size ≤ v1.heap.size := by have := HB61.out.size; omega
                      clear hb1))
                  | (refine step_pushTrm HOW1.out h51 HFO.out (by rw [HQ.out]; omega) rfl (.tmp 105) (.tmp 113) 1 rfl rfl rfl ?_; intro v' w8 hown8 hg8; (
                      obtain ⟨A8, c8, hv8, -, -⟩ := hown8.shape
                      rw [List.length_append, List.length_singleton, HQ.out] at hv8
                      subst hv8
                      have hne8 : ∀ i, (Value.slice A0 q c0).ownBlock = some i → w5.heap.size ≤ i := fun i e => (HOW1.out.row.lt i e).1
                      have hgw5 : g < w5.heap.size := by have := HSZ5.out; omega
                      have hbx8 : w8.heap[g]? = some (.cells #[.slice A0 q c0, .slice none 0 0] 28 (0, 0)) := (hg8.block g (by omega) (fun e => by have := hne8 g e.symm; omega)).trans HBX1.out
                      have ef8 : w8.frozen? ⟨g, 0, none⟩ = false := (box0 hbx8).2.2.1
                      have ec8 : w8.cell? ⟨g, 0, none⟩ = some (.slice A0 q c0) := (box0 hbx8).1
                      have hset8 := heap_setCell_same w8 g 0 _ 28 (.slice A8 (q + 1) c8) hbx8
                      have hg68 : w6.grownBy w8 (Value.slice A0 q c0).ownBlock := grown_below HB61.out hg8
                      have hR8 := (HR6.out.kept hg68 (fun e => by have := hne8 _ e.symm; have := HSZ5.out; omega) (fun e => by have := hne8 _ e.symm; have := HSZ5.out; omega)).kept (grownBy_setCell w8 ⟨g, 0, none⟩ (.slice A8 (q + 1) c8)) (by simp; omega) (by simp; omega)
                      have HCN8 := Lib.hid hR8.left_eq
                      have HST8 := Lib.hid (show LRel w5 g r (g + 1 + 1 + 1) U km cc (w8.setCell ⟨g, 0, none⟩ (.slice A8 (q + 1) c8)) from ⟨L ++ [(f, s)], .slice A8 (q + 1) c8, cnt6, hR8, hset8, by
                          rw [List.map_append]
                          have e1 : [(f, s)].map (mkT U) = [⟨f, s, EN⟩] := by rw [← HEN.out]; rfl
                          rw [e1]
                          exact hown8.block fun i e => heap_setCell_other w8 ⟨g, 0, none⟩ i _ (by have := (hown8.row.lt i e).1; show ¬ i = g; omega), by
                          refine ((HO6.out.andThen (G := fun i => w5.heap.size ≤ i) ?_ fun i hi h => by omega)).setCell (p := ⟨g, 0, none⟩) (.inl (.inl rfl)) _
                          refine ⟨hg68.os, hg68.tape, hg68.output, hg68.size, fun i hi hn => hg68.block i hi fun e => hn (hne8 i e.symm)⟩⟩)
                      clear hown8 hg8 hne8 hbx8 hset8 hg68 hR8))
                  | fail)
              all_goals
                go_wp2
                go_roundw
                case rel => exact HST8
                case measure => have h1 := HCN8.out; have h2 := HCNT.out; have h3 := HLT.out; omega
end Go.Proofs.YtfinpehbpcckaaaGreatDoor
