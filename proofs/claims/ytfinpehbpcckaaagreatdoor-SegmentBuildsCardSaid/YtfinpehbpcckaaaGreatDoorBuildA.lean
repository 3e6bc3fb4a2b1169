/- Layer 34: the contract of Build (printed by gen_buildA.py). -/
import Derived.Test.YtfinpehbpcckaaaGreatDoorBuildH
import Derived.Test.YtfinpehbpcckaaaGreatDoorBuildW
namespace Go.Proofs.YtfinpehbpcckaaaGreatDoor
open Go.RowKit
set_option linter.unusedVariables false

set_option maxRecDepth 100000 in
set_option maxHeartbeats 16000000 in
theorem seg_build_of (h2 : TwoSays) (A : Option Addr) (n c : Nat) (es : List Ent) (w : World) (h : Ents w w.heap.size A n es) (hf : EntsFew es) (ht : Tables w) :
    Calls Tryz.prog 11 #[.slice A n c] w (BuildPost w (usedE es)) := by
  have H := Lib.hid h
  have HF := Lib.hid hf
  have HT := Lib.hid ht
  have HN := Lib.hid h.len
  have hn9 : n ≤ 1000 := by rw [← h.len]; exact hf.len
  have HST := Lib.hid (build_start w es)
  have hmm := @run_makeMap Tryz.prog
  clear h hf ht
  go_enter Tryz.func11, Tryz.ntmps11
  go_wp2
  obtain ⟨W3, hW3⟩ : ∃ W3, ((((w.alloc (.cells #[.slice none 0 0, .slice none 0 0] 28)).alloc (.map #[] 0)).alloc (.map #[] 0)).alloc (.map #[] 0)) = W3 := ⟨_, rfl⟩
  rw [hW3] at HST ⊢
  clear hW3
  obtain ⟨g, hg⟩ : ∃ g, w.heap.size = g := ⟨_, rfl⟩
  rw [hg] at HST ⊢
  have HG := Lib.hid hg
  clear hg
  rename_i K aK
  have HKK := Lib.hid (fun (t0 t1 t6 t7 t8 t9 t10 t11 t12 t13 t14 t15 t16 t17 t18 t19 t20 t21 t22 t23 t24 t25 t26 t27 t28 t29 t30 t31 t32 t33 t34 t35 t36 t37 t38 t39 t40 t41 t42 t43 t44 t45 t46 t47 t48 t49 t50 t51 t52 t53 t54 t55 t56 t57 t58 t59 t60 t61 t62 t63 t64 t65 t66 t67 t68 t69 t70 t71 t72 t73 t74 t75 t76 t77 t78 t79 t80 t81 t82 t83 t84 t85 t86 t87 t88 t89 t90 t91 t92 t93 t94 t95 t96 t97 t98 t99 t100 t101 t102 t103 t104 t105 t106 t107 t108 t109 t110 t111 t112 t113 t114 t115 t116 t117 t118 t119 t120 t121 t122 t123 : Value) (W : World) (h : BRel w g es es.length W) => aK { tmps := #[t0, t1, .pointer (some ⟨g, 0, none⟩), .map (some (g + 1)), .map (some (g + 1 + 1)), .map (some (g + 1 + 1 + 1)), t6, t7, t8, t9, t10, t11, t12, t13, t14, t15, t16, t17, t18, t19, t20, t21, t22, t23, t24, t25, t26, t27, t28, t29, t30, t31, t32, t33, t34, t35, t36, t37, t38, t39, t40, t41, t42, t43, t44, t45, t46, t47, t48, t49, t50, t51, t52, t53, t54, t55, t56, t57, t58, t59, t60, t61, t62, t63, t64, t65, t66, t67, t68, t69, t70, t71, t72, t73, t74, t75, t76, t77, t78, t79, t80, t81, t82, t83, t84, t85, t86, t87, t88, t89, t90, t91, t92, t93, t94, t95, t96, t97, t98, t99, t100, t101, t102, t103, t104, t105, t106, t107, t108, t109, t110, t111, t112, t113, t114, t115, t116, t117, t118, t119, t120, t121, t122, t123], defers := [] } W (h2 t0 t1 t6 t7 t8 t9 t10 t11 t12 t13 t14 t15 t16 t17 t18 t19 t20 t21 t22 t23 t24 t25 t26 t27 t28 t29 t30 t31 t32 t33 t34 t35 t36 t37 t38 t39 t40 t41 t42 t43 t44 t45 t46 t47 t48 t49 t50 t51 t52 t53 t54 t55 t56 t57 t58 t59 t60 t61 t62 t63 t64 t65 t66 t67 t68 t69 t70 t71 t72 t73 t74 t75 t76 t77 t78 t79 t80 t81 t82 t83 t84 t85 t86 t87 t88 t89 t90 t91 t92 t93 t94 t95 t96 t97 t98 t99 t100 t101 t102 t103 t104 t105 t106 t107 t108 t109 t110 t111 t112 t113 t114 t115 t116 t117 t118 t119 t120 t121 t122 t123 es w g W HF.out HG.out h))
  clear aK
  go_loopw [22] (fun i wr => ∃ k : Nat, k ≤ n ∧ i = .int .i64 (k : Int) ∧ Hid (BRel w g es k wr)) (fun i _ => n - (intOf i).toNat)
  case atStart => exact ⟨0, Nat.zero_le _, rfl, HST.out⟩
  case round =>
    obtain ⟨k, hk, rfl, HR⟩ := hrel
    obtain ⟨cc, tag, km, hcc, hst⟩ := HR.out
    by_cases hlt : k < n
    · have hk2 : (k : Int) < n := by omega
      have hke : k < es.length := by rw [HN.out]; exact hlt
      obtain ⟨ad, rfl, hbl, c0, c1, c2, hsf⟩ := (H.out.below hst.bel).2 k hke
      have hus : usedE (es.take (k + 1)) = useE (usedE (es.take k)) es[k] := by rw [List.take_succ_eq_append_getElem hke, usedE_snoc]
      have hevb := HF.out.evs k
      have htx := HF.out.text _ (List.getElem_mem hke)
      have hwl := hevb.2 _ (List.getElem_mem hke)
      obtain ⟨e, he⟩ : ∃ e, es[k] = e := ⟨_, rfl⟩
      rw [he] at c0 c1 c2 hsf hus htx hwl
      clear he hke
      obtain ⟨U, hU⟩ : ∃ U, usedE (es.take k) = U := ⟨_, rfl⟩
      rw [hU] at hus hcc hst hevb
      obtain ⟨d, f, tx⟩ := e
      dsimp only at c0 c1 c2 hsf htx hwl
      have HUS := Lib.hid hus
      have HST2 := Lib.hid hst
      have HFR0 := Lib.hid hst.terms.fresh
      have hsz := hst.bel.size
      have hHl := hst.had.lt
      have hDl := hst.docs.lt
      have hTl := hst.terms.lt (b := g + 1 + 1 + 1) (by rw [hst.terms.top]; simp)
      -- the two boxes
      have HWB : Hid (Below wr.heap.size wr ((wr.alloc (.cells #[.int .i64 d, .int .i64 f, .string (ba tx)] 40)).alloc (.cells #[.int .i64 d, .int .i64 f] 57))) := Lib.hid (((Below.refl _ _).alloc (Nat.le_refl _) _).alloc (by simp) _)
      have hws : ((wr.alloc (.cells #[.int .i64 d, .int .i64 f, .string (ba tx)] 40)).alloc (.cells #[.int .i64 d, .int .i64 f] 57)).heap.size = wr.heap.size + 1 + 1 := by simp
      have x0 : ((wr.alloc (.cells #[.int .i64 d, .int .i64 f, .string (ba tx)] 40)).alloc (.cells #[.int .i64 d, .int .i64 f] 57)).cell? ⟨wr.heap.size, 0, none⟩ = some (.int .i64 d) := by go_simp
      have x1 : ((wr.alloc (.cells #[.int .i64 d, .int .i64 f, .string (ba tx)] 40)).alloc (.cells #[.int .i64 d, .int .i64 f] 57)).cell? ⟨wr.heap.size, 1, none⟩ = some (.int .i64 f) := by go_simp
      have x2 : ((wr.alloc (.cells #[.int .i64 d, .int .i64 f, .string (ba tx)] 40)).alloc (.cells #[.int .i64 d, .int .i64 f] 57)).cell? ⟨wr.heap.size, 2, none⟩ = some (.string (ba tx)) := by go_simp
      have y0 : ((wr.alloc (.cells #[.int .i64 d, .int .i64 f, .string (ba tx)] 40)).alloc (.cells #[.int .i64 d, .int .i64 f] 57)).cell? ⟨wr.heap.size + 1, 0, none⟩ = some (.int .i64 d) := by go_simp
      have y1 : ((wr.alloc (.cells #[.int .i64 d, .int .i64 f, .string (ba tx)] 40)).alloc (.cells #[.int .i64 d, .int .i64 f] 57)).cell? ⟨wr.heap.size + 1, 1, none⟩ = some (.int .i64 f) := by go_simp
      clear hst HR hus
      go_wp2_with fail
      refine (counts_any d f (ba tx) _).mono ?_
      rintro e w1 ⟨rfl, hb1⟩
      have HB1 := Lib.hid (HWB.out.trans (hb1.mono (by omega)))
      have p0 : w1.cell? ⟨wr.heap.size, 0, none⟩ = some (.int .i64 d) := (hb1.cell (p := ⟨wr.heap.size, 0, none⟩) (by show wr.heap.size < _; omega)).trans x0
      have p1 : w1.cell? ⟨wr.heap.size, 1, none⟩ = some (.int .i64 f) := (hb1.cell (p := ⟨wr.heap.size, 1, none⟩) (by show wr.heap.size < _; omega)).trans x1
      have p2 : w1.cell? ⟨wr.heap.size, 2, none⟩ = some (.string (ba tx)) := (hb1.cell (p := ⟨wr.heap.size, 2, none⟩) (by show wr.heap.size < _; omega)).trans x2
      have q0 : w1.cell? ⟨wr.heap.size + 1, 0, none⟩ = some (.int .i64 d) := (hb1.cell (p := ⟨wr.heap.size + 1, 0, none⟩) (by show wr.heap.size + 1 < _; omega)).trans y0
      have q1 : w1.cell? ⟨wr.heap.size + 1, 1, none⟩ = some (.int .i64 f) := (hb1.cell (p := ⟨wr.heap.size + 1, 1, none⟩) (by show wr.heap.size + 1 < _; omega)).trans y1
      have hs1 : wr.heap.size + 1 + 1 ≤ w1.heap.size := by have := hb1.size; omega
      have HST3 := Lib.hid (HST2.out.below HB1.out)
      clear x0 x1 x2 y0 y1 hb1 HST2
      obtain ⟨cb, hcb⟩ : ∃ cb, countsP d f = cb := ⟨_, rfl⟩
      have HCB := Lib.hid hcb
      rw [hcb]
      clear hcb
      cases cb
      · have HUS2 := Lib.hid (show usedE (es.take (k + 1)) = U by rw [HUS.out]; unfold useE; rw [if_neg (by rintro ⟨h1, _⟩; rw [HCB.out] at h1; cases h1)])
        go_wp2
        go_roundw
        case rel => exact ⟨k + 1, by omega, by go_num, cc, tag, km, by rw [HUS2.out]; omega, by rw [HUS2.out]; exact HST3.out⟩
        case measure => simp [intOf] <;> omega
      have hfits := countsP_fits HCB.out
      by_cases hm : (d, f) ∈ U.map spotE
      · have hlk : (Instr.lookup 53 (.map (some (g + 1))) (.agg #[.int .i64 d, .int .i64 f]) false).run Tryz.prog w1 = .ok (.bool true) w1 := by
          exact HST3.out.had.look_in Tryz.underlying53 (zero4 w1) hfits.1 hm
        have HUS2 := Lib.hid (show usedE (es.take (k + 1)) = U by rw [HUS.out]; unfold useE; rw [if_neg (by rintro ⟨_, h1⟩; exact h1 hm)])
        clear hm hfits
        go_wp2
        go_roundw
        case rel => exact ⟨k + 1, by omega, by go_num, cc, tag, km, by rw [HUS2.out]; omega, by rw [HUS2.out]; exact HST3.out⟩
        case measure => simp [intOf] <;> omega
      have hlk : (Instr.lookup 53 (.map (some (g + 1))) (.agg #[.int .i64 d, .int .i64 f]) false).run Tryz.prog w1 = .ok (.bool false) w1 := by
        exact HST3.out.had.look_out Tryz.underlying53 (zero4 w1) hfits.1 hm
      have HUS2 := Lib.hid (show usedE (es.take (k + 1)) = U ++ [⟨d, f, tx⟩] by rw [HUS.out]; unfold useE; rw [if_pos ⟨HCB.out, hm⟩])
      have hcm : cc < maxLen := by have := hevb.1; simp only [maxLen]; omega
      obtain ⟨w2, hrunH, hput1, hg1⟩ := SetAt.put (w := w1.drew) (show SetAt spotK w1.drew (g + 1) (fun p => p ∈ U.map spotE) cc from HST3.out.had) Tryz.underlying53 hcm hfits.1
      have hne : g + 1 + 1 ≠ g + 1 := by omega
      obtain ⟨w3, hrunD, hput2, hg2⟩ := SetAt.put (w := w2) (HST3.out.docs.keep (hg1.block (g + 1 + 1) HST3.out.docs.lt (by simp))) Tryz.underlying54 hcm hfits.2
      have hrunH2 : (Instr.mapUpdate 53 (.map (some (g + 1))) (.agg #[.int .i64 d, .int .i64 f]) (.bool true)).run Tryz.prog w1.drew = .ok () w2 := hrunH
      have hrunD2 : (Instr.mapUpdate 54 (.map (some (g + 1 + 1))) (.int .i64 d) (.bool true)).run Tryz.prog w2 = .ok () w3 := hrunD
      have r0 : w2.cell? ⟨wr.heap.size, 0, none⟩ = some (.int .i64 d) := (World.cell?_of_block (a := ⟨wr.heap.size, 0, none⟩) (hg1.block wr.heap.size (by show wr.heap.size < w1.heap.size; omega) (by simp; omega))).trans p0
      have HP1 := Lib.hid hput1
      have HP2 := Lib.hid hput2
      have HG1 := Lib.hid hg1
      have HG2 := Lib.hid hg2
      have HFT := Lib.hid hfits
      clear hput1 hput2 hrunH hrunD hm hfits
      have HB3 := Lib.hid (show Off (fun i => i = g + 1 ∨ i = g + 1 + 1) w1 w3 from ((Off.refl _ w1).drew.grown hg1 fun i e => .inl (.inl (Option.some.inj e).symm)).grown hg2 fun i e => .inl (.inr (Option.some.inj e).symm))
      have r2 : w3.cell? ⟨wr.heap.size, 2, none⟩ = some (.string (ba tx)) := (World.cell?_of_block (a := ⟨wr.heap.size, 2, none⟩) (HB3.out.block wr.heap.size (by omega) (by rintro (e | e) <;> omega))).trans p2
      have HB30 := Lib.hid (HST3.out.bel.trans (HB3.out.below (by omega) (fun i e => by have := HG.out; rcases e with e | e <;> omega)))
      have hs3 := HB3.out.size
      clear hg1 hg2
      go_wp2
      go_region
      have ht3 := HT.out.below HB30.out
      go_wp2_with fail
      refine (list_any tx w3 ht3.1 ht3.2 (by omega)).mono ?_
      rintro e w4 ⟨v4, rfl, hv4, hb4⟩
      obtain ⟨A4, c4, rfl, -, -, hS⟩ := hv4.strs
      obtain ⟨be, hbe⟩ : ∃ be, wr.heap.size = be := ⟨_, rfl⟩
      have hs4 := hb4.size
      have HEV0 := Lib.hid (show evsOf (usedE (es.take (k + 1))) = evsOf U ++ evOf ⟨d, f, tx⟩ by rw [HUS2.out, evsOf_snoc])
      have HTM4 := Lib.hid (show TermsAt w4 w.heap.size tag (g + 1 + 1 + 1) (evsOf U) (fun _ => False) km cc from
        (HST3.out.terms.keep HB3.out.size (fun i hi => HB3.out.block i (HST3.out.terms.lt hi) (by rintro (e | e); (subst e; exact hi HST3.out.out.1); (subst e; exact hi HST3.out.out.2.1)))).below hb4)
      have HAD4 := Lib.hid (HP1.out.keep ((hb4.block (g + 1) (by omega)).trans (HG2.out.block (g + 1) HP1.out.lt (by simp))))
      have HDD4 := Lib.hid (HP2.out.keep (hb4.block (g + 1 + 1) HP2.out.lt))
      have HBX4 := Lib.hid ((hb4.block g (by omega)).trans ((HB3.out.block g (by omega) (by rintro (e | e) <;> omega)).trans HST3.out.box))
      have HBL4 := Lib.hid (HB30.out.trans (hb4.mono (by have := HB30.out.size; omega)))
      have HE0 := Lib.hid ((hb4.cell (p := ⟨wr.heap.size, 0, none⟩) (by show wr.heap.size < _; omega)).trans ((World.cell?_of_block (a := ⟨wr.heap.size, 0, none⟩) (HB3.out.block wr.heap.size (by omega) (by rintro (e | e) <;> omega))).trans p0))
      have HE1 := Lib.hid ((hb4.cell (p := ⟨wr.heap.size, 1, none⟩) (by show wr.heap.size < _; omega)).trans ((World.cell?_of_block (a := ⟨wr.heap.size, 1, none⟩) (HB3.out.block wr.heap.size (by omega) (by rintro (e | e) <;> omega))).trans p1))
      have HOUT := Lib.hid HST3.out.out
      have HFR : Hid (∀ i, be ≤ i → tag i = .out) := Lib.hid (by rw [← hbe]; exact HFR0.out)
      have HROW := Lib.hid (fun (gb : Nat) (e : (Value.slice A4 (listP tx).length c4).ownBlock = some gb) => (World.ownsRow.lt hv4 gb e).1)
      rw [hbe] at HE0 HE1 ⊢
      have hbes : be + 1 + 1 ≤ w3.heap.size := by omega
      have HS4 := Lib.hid hS
      obtain ⟨m, hm⟩ : ∃ m, (listP tx).length = m := ⟨_, rfl⟩
      have HML := Lib.hid hm
      have hwl2 : m ≤ 200001 := by omega
      rw [hm] at HS4 HROW ⊢
      have hevl := hevb.1
      obtain ⟨W0, rfl⟩ : ∃ W0, W0 = wr := ⟨_, rfl⟩
      clear hb4 hv4 hS p0 p1 p2 q0 q1 r0 r2 hrunH2 hrunD2 hlk hm ht3 hsz hHl hDl hTl hws hs1 hs3 hevb hbl c0 c1 c2 hbe hwl
      go_wp2
      go_loopw [48] (fun i W => ∃ j : Nat, j ≤ m ∧ i = .int .i64 (j : Int) ∧ Hid (IRel w w4 tag (g + 1 + 1 + 1) (evsOf U) (evOf ⟨d, f, tx⟩) cc j W)) (fun i _ => m - (intOf i).toNat)
      case atStart => exact ⟨0, Nat.zero_le _, rfl, cc, tag, km, by omega, by simpa using HTM4.out, Kept.refl _ _, HBL4.out⟩
      case round =>
        obtain ⟨j, hj, rfl, HI⟩ := hrel
        obtain ⟨cI, tagI, kmI, hcI, hterms, hkept, hbel⟩ := HI.out
        have hszI := hkept.1
        have hws0 := hbel.size
        by_cases hjm : j < m
        · have hj2 : (j : Int) < m := by omega
          have hjl : j < (listP tx).length := by rw [HML.out]; exact hjm
          obtain ⟨ad4, rfl, hbl4, cw⟩ := HS4.out.at_ hjl
          have hlo4 := HROW.out ad4.block rfl
          have hko4 := hkept.2 ad4.block hbl4 (HFR.out _ (by omega))
          have hkoe := hkept.2 be (by omega) (HFR.out _ (Nat.le_refl _))
          have hxl := listP_le tx _ (List.getElem_mem hjl)
          have HEV := Lib.hid (show evsOf U ++ (evOf ⟨d, f, tx⟩).take (j + 1) = evsOf U ++ ((evOf ⟨d, f, tx⟩).take j ++ [((f, (listP tx)[j]), d, (j : Int))]) by rw [evOf_take (e := ⟨d, f, tx⟩) hjl])
          obtain ⟨x, hx⟩ : ∃ x, (listP tx)[j] = x := ⟨_, rfl⟩
          rw [hx] at cw hxl HEV
          have c9 : wr.cell? (ad4.add j) = some (.string (ba x)) := (World.cell?_of_block (a := ad4.add j) (by rw [add_block]; exact hko4.1)).trans cw
          have ew0 : wr.cell? ⟨be, 0, none⟩ = some (.int .i64 d) := (World.cell?_of_block (a := ⟨be, 0, none⟩) hkoe.1).trans HE0.out
          have ew1 : wr.cell? ⟨be, 1, none⟩ = some (.int .i64 f) := (World.cell?_of_block (a := ⟨be, 1, none⟩) hkoe.1).trans HE1.out
          have HBEO0 := Lib.hid hkoe.2
          have HKF : Hid (KeyFits (f, x)) := Lib.hid ⟨HFT.out.1.2, by show x.length ≤ maxLen; simp only [maxLen]; omega⟩
          have HDF := Lib.hid HFT.out.2
          have hbK : Below wr.heap.size wr (wr.alloc (.cells #[.int .i64 f, .string (ba x)] 60)) := (Below.refl _ _).alloc (Nat.le_refl _) _
          have hzK : (wr.alloc (.cells #[.int .i64 f, .string (ba x)] 60)).heap.size = wr.heap.size + 1 := by simp
          have k0 : (wr.alloc (.cells #[.int .i64 f, .string (ba x)] 60)).cell? ⟨wr.heap.size, 0, none⟩ = some (.int .i64 f) := by go_simp
          have k1 : (wr.alloc (.cells #[.int .i64 f, .string (ba x)] 60)).cell? ⟨wr.heap.size, 1, none⟩ = some (.string (ba x)) := by go_simp
          have hbew : be < wr.heap.size := by omega
          have e0 : (wr.alloc (.cells #[.int .i64 f, .string (ba x)] 60)).cell? ⟨be, 0, none⟩ = some (.int .i64 d) := (hbK.cell (p := ⟨be, 0, none⟩) hbew).trans ew0
          have hKB := hterms.fresh wr.heap.size (Nat.le_refl _)
          clear hx hjl cw hko4 hkoe hlo4 HI
          have hevj : (evsOf U ++ (evOf ⟨d, f, tx⟩).take j).length ≤ 200001000 + j := by rw [List.length_append, List.length_take]; omega
          obtain ⟨EVJ, hEVJ⟩ : ∃ q, evsOf U ++ (evOf ⟨d, f, tx⟩).take j = q := ⟨_, rfl⟩
          rw [hEVJ] at hterms hevj
          rw [← List.append_assoc, hEVJ] at HEV
          clear hEVJ
          have eqS := eqlMap_some
          have eqN := eqlMap_none
          obtain ⟨v0, hv0⟩ : ∃ v0, (kmI (f, x)).getD (.map none) = v0 := ⟨_, rfl⟩
          obtain ⟨b0, hb0⟩ : ∃ b0, (kmI (f, x)).isNone = b0 := ⟨_, rfl⟩
          have hlk : (Instr.lookup 55 (.map (some (g + 1 + 1 + 1))) (.agg #[.int .i64 f, .string (ba x)]) false).run Tryz.prog (wr.alloc (.cells #[.int .i64 f, .string (ba x)] 60)) = .ok v0 (wr.alloc (.cells #[.int .i64 f, .string (ba x)] 60)) := by
            have := MapAt.look (w := (wr.alloc (.cells #[.int .i64 f, .string (ba x)] 60))) (K := keyK) (hterms.below hbK).map Tryz.underlying55 (zero61 _) HKF.out
            rw [hv0] at this
            exact this
          have heq : ∀ W, (binOp BinOp.eql 61 v0 (.map none)).run Tryz.prog W = .ok (.bool b0) W := by
            intro W
            cases hkm : kmI (f, x) with
            | none =>
              rw [hkm] at hv0 hb0
              subst hv0; subst hb0
              exact eqlMap_none W
            | some v =>
              obtain ⟨bI, dm0, hvI, -⟩ := hterms.inner HKF.out hkm
              rw [hkm] at hv0 hb0
              subst hv0; subst hb0
              rw [hvI]
              exact eqlMap_some _ W
          have hguard : ∀ W, (eqGuard BinOp.eql 61 (.tmp 59) (.const (.map none)) v0 (.map none)).run Tryz.prog W = .ok () W := by
            intro W
            cases hkm : kmI (f, x) with
            | none =>
              rw [hkm] at hv0
              subst hv0
              exact eqG_none W
            | some v =>
              obtain ⟨bI, dm0, hvI, -⟩ := hterms.inner HKF.out hkm
              rw [hkm] at hv0
              subst hv0
              rw [hvI]
              exact eqG_some _ W
          have HB0 := Lib.hid hb0
          clear hv0 hb0 eqS eqN
          have hgT9 : g + 1 + 1 + 1 < wr.heap.size := hterms.lt (by rw [hterms.top]; simp)
          go_upto_if 60 with (fail)
          go_cut [] (fun wc => Hid (JRel w wr tagI (g + 1 + 1 + 1) EVJ cI f x d be wr.heap.size wc))
          case first =>
            cases b0
            · have HJR := Lib.hid (show JRel w wr tagI (g + 1 + 1 + 1) EVJ cI f x d be wr.heap.size (wr.alloc (.cells #[.int .i64 f, .string (ba x)] 60)) by
                cases hkm : kmI (f, x) with
                | none => rw [hkm] at HB0; exact absurd HB0.out (by simp)
                | some v =>
                  obtain ⟨bI, dm0, hvI, -⟩ := hterms.inner HKF.out hkm
                  rw [hvI] at hkm
                  exact ⟨bI, tagI, kmI, ((hterms.below hbK).mono (Nat.le_succ _)).addX hkm, hkm, Kept.below hbK, hbK.mono (by omega), k0, k1, e0, hKB, HBEO0.out, by omega⟩)
              go_wp2
              go_meet
              case rel => exact HJR
            · have hkm : kmI (f, x) = none := by
                cases hkm : kmI (f, x) with
                | none => rfl
                | some v => rw [hkm] at HB0; exact absurd HB0.out (by simp)
              obtain ⟨w6, hrun6, tag6, htag6, htag6b, hT6, hg6⟩ := TermsAt.mk_ (hterms.below hbK) (by simp only [maxLen]; omega) HKF.out hkm
              rw [hzK] at hrun6 hT6
              have hrun6b : (Instr.mapUpdate 55 (.map (some (g + 1 + 1 + 1))) (.agg #[.int .i64 f, .string (ba x)]) (.map (some (wr.heap.size + 1)))).run Tryz.prog ((wr.alloc (.cells #[.int .i64 f, .string (ba x)] 60)).alloc (.map #[] 0)) = .ok () w6 := hrun6
              have hzM : ((wr.alloc (.cells #[.int .i64 f, .string (ba x)] 60)).alloc (.map #[] 0)).heap.size = wr.heap.size + 1 + 1 := by simp
              have hz6 := hg6.size
              have hgT : ∀ i, i < wr.heap.size + 1 → i ≠ g + 1 + 1 + 1 → w6.heap[i]? = (wr.alloc (.cells #[.int .i64 f, .string (ba x)] 60)).heap[i]? := fun i hi hne => (hg6.block i (by omega) (by simpa using hne)).trans (heap_alloc_old _ _ (by omega))
              have hTI : ∀ i, tagI i = .out → i ≠ g + 1 + 1 + 1 := fun i hi e => by rw [e, hterms.top] at hi; cases hi
              have k0n : w6.cell? ⟨wr.heap.size, 0, none⟩ = some (.int .i64 f) := (World.cell?_of_block (a := ⟨wr.heap.size, 0, none⟩) (hgT wr.heap.size (by omega) (hTI _ hKB))).trans k0
              have k1n : w6.cell? ⟨wr.heap.size, 1, none⟩ = some (.string (ba x)) := (World.cell?_of_block (a := ⟨wr.heap.size, 1, none⟩) (hgT wr.heap.size (by omega) (hTI _ hKB))).trans k1
              have e0n : w6.cell? ⟨be, 0, none⟩ = some (.int .i64 d) := (World.cell?_of_block (a := ⟨be, 0, none⟩) (hgT be (by omega) (hTI _ HBEO0.out))).trans e0
              have HJR := Lib.hid (show JRel w wr tagI (g + 1 + 1 + 1) EVJ cI f x d be wr.heap.size w6 from ⟨wr.heap.size + 1, tag6, updK kmI (f, x) (.map (some (wr.heap.size + 1))), hT6, updK_same _ _ _,
                ⟨by omega, fun i hi ho => ⟨(hgT i (by omega) (hTI i ho)).trans (hbK.block i hi), htag6b i (by omega) ho⟩⟩,
                (hbK.mono (by omega)).trans ((((Below.refl w.heap.size (wr.alloc (.cells #[.int .i64 f, .string (ba x)] 60))).alloc (by omega) _)).grown hg6 (by omega) (fun i e => by have h0 : g + 1 + 1 + 1 = i := Option.some.inj e; have := HG.out; omega)),
                k0n, k1n, e0n, htag6b _ (by omega) hKB, htag6b _ (by omega) HBEO0.out, by omega⟩)
              clear hg6 hT6 hgT hTI htag6 htag6b hkm k0n k1n e0n
              go_wp2
              go_meet
              case rel => exact HJR
          case rest =>
            rename_i K1 aK1 K aK
            obtain ⟨bJ, tagJ, kmJ, jT, jK, jKept, jB, k0, k1, e0, jkb, jbe, hs6⟩ := hcut.out
            have HKT := Lib.hid (hkept.trans jKept)
            have HBL := Lib.hid (hbel.trans jB)
            have HBASE := Lib.hid jT.base
            clear hcut
            apply aK
            refine build_push _ _ _ _ _ _ _ _ _ _ _ _ _ _ _ _ _ _ _ _ _ _ _ _ _ _ _ _ _ _ _ _ _ _ _ _ _ _ _ _ _ _ _ _ _ _ _ _ _ _ _ _ _ _ _ _ _ _ _ _ _ _ _ _ _ _ _ _ _ _ _ _ _ _ _ _ _ _ _ _ _ _ _ _ _ _ _ _ _ _ _ _ _ _ _ _ _ _ _ _ _ _ _ _ _ _ _ _ _ _ _ _ _ _ _ _ _ _ _ _ _ w.heap.size (g + 1 + 1 + 1) be wr.heap.size bJ cI j f d x EVJ tagJ kmJ wc jT jK k0 k1 e0 jkb jbe (by omega) (by omega) HKF.out HDF.out (by omega) (by omega) (by omega) (by omega) ?_
            clear aK jT jK k0 k1 e0 jkb jbe
            intro z64 z65 z66 z67 z68 z69 z70 z71 z72 z73 z74 z75 z76 z77 w9 tag9 h1 h2 h3
            have HFIN := Lib.hid (And.intro h1 (And.intro h2 h3))
            clear h1 h2 h3
            apply aK1
            go_wp2
            go_roundw
            case rel => exact ⟨j + 1, by omega, by go_num, ⟨(cI + 1) + 1, tag9, kmJ, by omega, by rw [HEV.out]; exact HFIN.out.2.1, HKT.out.trans ⟨HFIN.out.2.2.size, fun i hi ho => ⟨HFIN.out.2.2.block i hi (by rw [ho]; simp), HFIN.out.1 i hi ho⟩⟩, HBL.out.trans (HFIN.out.2.2.below (by omega) (fun i e => HBASE.out i e))⟩⟩
            case measure => simp [intOf] <;> omega
        · have hjm2 : j = m := by omega
          subst hjm2
          have htk : (evOf ⟨d, f, tx⟩).take j = evOf ⟨d, f, tx⟩ := List.take_of_length_le (by rw [evOf_len]; show (listP tx).length ≤ j; rw [HML.out]; exact Nat.le_refl _)
          rw [htk, ← evsOf_snoc] at hterms
          have hT0 := hkept.2 (g + 1) (by have := HAD4.out.lt; omega) HOUT.out.1
          have hT1 := hkept.2 (g + 1 + 1) (by have := HDD4.out.lt; omega) HOUT.out.2.1
          have hT2 := hkept.2 g (heap_lt HBX4.out) HOUT.out.2.2
          have HNEW := Lib.hid (show BRel w g es (k + 1) wr from ⟨cc + 1 + 2 * j, tagI, kmI, by
              rw [HEV0.out, List.length_append, evOf_len]
              show cc + 1 + 2 * j ≤ k + 1 + 2 * ((evsOf U).length + (listP tx).length)
              rw [HML.out]; omega, by
              rw [HUS2.out]
              refine ⟨?_, ?_, hterms.mono (by omega), ⟨hT0.2, hT1.2, hT2.2⟩, hT2.1.trans HBX4.out, hbel⟩
              · exact ((HAD4.out.keep hT0.1).mono (by omega)).congr fun x _ => by simp [spotE]
              · exact ((HDD4.out.keep hT1.1).mono (by omega)).congr fun x _ => by simp⟩)
          clear hterms hkept hbel hT0 hT1 hT2 htk HI
          go_wp2
          go_roundw
          case rel => exact ⟨k + 1, by omega, by go_num, HNEW⟩
          case measure => simp [intOf] <;> omega
    · have hkn : k = n := by omega
      subst hkn
      have HEND := Lib.hid (show BRel w g es es.length wr by rw [HN.out]; exact HR.out)
      clear hst hcc HR
      go_wp2
      apply HKK.out
      exact HEND.out
end Go.Proofs.YtfinpehbpcckaaaGreatDoor
