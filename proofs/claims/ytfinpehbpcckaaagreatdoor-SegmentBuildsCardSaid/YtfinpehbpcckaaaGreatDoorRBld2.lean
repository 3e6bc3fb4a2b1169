/- Layer 34: the reference's Build: its second loop (printed by gen_rbuild.py). -/
import Derived.Test.YtfinpehbpcckaaaGreatDoorRBldH
import Derived.Test.YtfinpehbpcckaaaGreatDoorRunR
import Derived.Deep.RegionHeld3
import Derived.Deep.DrawnRows
namespace Go.Proofs.YtfinpehbpcckaaaGreatDoor
open Go.RowKit
set_option linter.unusedVariables false
attribute [local go_sem ↓] Go.wp_at_zero Go.wp_at_succ

def R2 (w : World) (g bs : Nat) (U : List Ent) (AE : Option Addr) (nE : Nat) (dv : Value) (docs : List Int) (ks : List Key) (wr : World) : Prop := ∃ tv, RB w g bs U AE nE tv dv (termsR ks) docs wr
set_option maxRecDepth 100000 in
set_option maxHeartbeats 32000000 in
theorem rbuild_two (h3 : RThree) : RTwo := by
  unfold RTwo
  intro t0 t1 t5 t6 t7 t8 t9 t10 t11 t12 t13 t14 t15 t16 t17 t18 t19 t20 t21 t22 t23 t24 t25 t26 t27 t28 t29 t30 t31 t32 t33 t34 t35 t36 t37 t38 t39 t40 t41 t42 t43 t44 t45 t46 t47 t48 t49 t50 t51 t52 t53 t54 t55 t56 t57 t58 t59 t60 t61 t62 t63 t64 t65 t66 t67 t68 t69 t70 t71 t72 t73 t74 t75 t76 t77 t78 t79 t80 t81 t82 t83 t84 t85 t86 t87 t88 t89 t90 t91 t92 t93 t94 t95 t96 t97 t98 t99 t100 t101 t102 t103 t104 t105 t106 t107 t108 t109 t110 t111 t112 t113 t114 t115 t116 t117 t118 t119 t120 t121 t122 t123 t124 t125 t126 t127 t128 t129 t130 t131 t132 t133 t134 t135 t136 t137 t138 t139 t140 t141 t142 t143 t144 t145 t146 t147 t148 t149 t150 t151 t152 t153 t154 t155 t156 t157 t158 t159 t160 t161 t162 t163 t164 t165 t166 t167 t168 t169 t170 t171 t172 t173 t174 t175 t176 t177 t178 t179 t180 t181 t182 t183 t184 t185 t186 t187 t188 t189 t190 t191 t192 t193 t194 t195 t196 t197 t198 t199 t200 t201 w g bs U AE nE cE tv dv wr hU0 hG0 hrb0
  have H3 := Lib.hid h3
  have HU := Lib.hid hU0
  have HG := Lib.hid hG0
  have hnE9 : nE ≤ 24 := by rw [hrb0.ents.1]; exact hU0.len
  have HNE := Lib.hid hrb0.ents.len
  obtain ⟨docs, hdocs⟩ : ∃ docs, docsR U = docs := ⟨_, rfl⟩
  have HDOCS := Lib.hid hdocs
  rw [hdocs] at hrb0
  have HINI := Lib.hid (show R2 w g bs U AE nE dv docs (keysR (U.take 0)) wr from ⟨tv, hrb0⟩)
  obtain ⟨W0, rfl⟩ : ∃ W0, W0 = wr := ⟨_, rfl⟩
  clear hU0 hG0 h3 hrb0 hdocs
  unfold rbuild2
  simp only [codeTailR, Tryz.f12, Option.getD_some]
  go_wp2
  rename_i K aK
  have HKK := Lib.hid (fun (t0 t1 t5 t6 t7 t8 t9 t10 t11 t12 t13 t14 t15 t16 t17 t18 t19 t20 t21 t22 t23 t24 t25 t26 t27 t28 t29 t30 t31 t32 t33 t34 t35 t36 t37 t38 t39 t40 t41 t42 t43 t44 t45 t46 t47 t48 t49 t50 t51 t52 t53 t54 t55 t56 t57 t58 t59 t60 t61 t62 t63 t64 t65 t66 t67 t68 t69 t70 t71 t72 t73 t74 t75 t76 t77 t78 t79 t80 t81 t82 t83 t84 t85 t86 t87 t88 t89 t90 t91 t92 t93 t94 t95 t96 t97 t98 t99 t100 t101 t102 t103 t104 t105 t106 t107 t108 t109 t110 t111 t112 t113 t114 t115 t116 t117 t118 t119 t120 t121 t122 t123 t124 t125 t126 t127 t128 t129 t130 t131 t132 t133 t134 t135 t136 t137 t138 t139 t140 t141 t142 t143 t144 t145 t146 t147 t148 t149 t150 t151 t152 t153 t154 t155 t156 t157 t158 t159 t160 t161 t162 t163 t164 t165 t166 t167 t168 t169 t170 t171 t172 t173 t174 t175 t176 t177 t178 t179 t180 t181 t182 t183 t184 t185 t186 t187 t188 t189 t190 t191 t192 t193 t194 t195 t196 t197 t198 t199 t200 t201 : Value) (tv : Value) (W : World) (hrb : RB w g bs U AE nE tv dv (termsR (keysR U)) (docsR U) W) => aK { tmps := #[t0, t1, .pointer (some ⟨g, 0, none⟩), .slice AE nE cE, .pointer (some ⟨bs, 0, none⟩), t5, t6, t7, t8, t9, t10, t11, t12, t13, t14, t15, t16, t17, t18, t19, t20, t21, t22, t23, t24, t25, t26, t27, t28, t29, t30, t31, t32, t33, t34, t35, t36, t37, t38, t39, t40, t41, t42, t43, t44, t45, t46, t47, t48, t49, t50, t51, t52, t53, t54, t55, t56, t57, t58, t59, t60, t61, t62, t63, t64, t65, t66, t67, t68, t69, t70, t71, t72, t73, t74, t75, t76, t77, t78, t79, t80, t81, t82, t83, t84, t85, t86, t87, t88, t89, t90, t91, t92, t93, t94, t95, t96, t97, t98, t99, t100, t101, t102, t103, t104, t105, t106, t107, t108, t109, t110, t111, t112, t113, t114, t115, t116, t117, t118, t119, t120, t121, t122, t123, t124, t125, t126, t127, t128, t129, t130, t131, t132, t133, t134, t135, t136, t137, t138, t139, t140, t141, t142, t143, t144, t145, t146, t147, t148, t149, t150, t151, t152, t153, t154, t155, t156, t157, t158, t159, t160, t161, t162, t163, t164, t165, t166, t167, t168, t169, t170, t171, t172, t173, t174, t175, t176, t177, t178, t179, t180, t181, t182, t183, t184, t185, t186, t187, t188, t189, t190, t191, t192, t193, t194, t195, t196, t197, t198, t199, t200, t201], defers := [] } W (H3.out t0 t1 t5 t6 t7 t8 t9 t10 t11 t12 t13 t14 t15 t16 t17 t18 t19 t20 t21 t22 t23 t24 t25 t26 t27 t28 t29 t30 t31 t32 t33 t34 t35 t36 t37 t38 t39 t40 t41 t42 t43 t44 t45 t46 t47 t48 t49 t50 t51 t52 t53 t54 t55 t56 t57 t58 t59 t60 t61 t62 t63 t64 t65 t66 t67 t68 t69 t70 t71 t72 t73 t74 t75 t76 t77 t78 t79 t80 t81 t82 t83 t84 t85 t86 t87 t88 t89 t90 t91 t92 t93 t94 t95 t96 t97 t98 t99 t100 t101 t102 t103 t104 t105 t106 t107 t108 t109 t110 t111 t112 t113 t114 t115 t116 t117 t118 t119 t120 t121 t122 t123 t124 t125 t126 t127 t128 t129 t130 t131 t132 t133 t134 t135 t136 t137 t138 t139 t140 t141 t142 t143 t144 t145 t146 t147 t148 t149 t150 t151 t152 t153 t154 t155 t156 t157 t158 t159 t160 t161 t162 t163 t164 t165 t166 t167 t168 t169 t170 t171 t172 t173 t174 t175 t176 t177 t178 t179 t180 t181 t182 t183 t184 t185 t186 t187 t188 t189 t190 t191 t192 t193 t194 t195 t196 t197 t198 t199 t200 t201 w g bs U AE nE cE tv dv W HU.out HG.out hrb))
  clear aK
  go_loopw [6] (fun i wr => ∃ k : Nat, k ≤ nE ∧ i = .int .i64 (k : Int) ∧ Hid (R2 w g bs U AE nE dv docs (keysR (U.take k)) wr)) (fun i _ => nE - (intOf i).toNat)
  case atStart => exact ⟨0, Nat.zero_le _, rfl, HINI.out⟩
  case round =>
    obtain ⟨i, hi, rfl, HR⟩ := hrel
    obtain ⟨tv, hrb⟩ := HR.out
    have hsz := hrb.size
    by_cases hlt : i < nE
    · have hi2 : (i : Int) < nE := by omega
      have hi0 : (0 : Int) ≤ (i : Int) := by omega
      have hil : i < U.length := by rw [HNE.out]; exact hlt
      obtain ⟨ae, rfl, hbl, c0, c1, c2, hfit⟩ := hrb.ents.2 i hil
      have htx := HU.out.text U[i] (List.getElem_mem hil)
      have hkt := keysR_take hil
      have hcnt := countsP_iff.1 (HG.out.counts U[i] (List.getElem_mem hil))
      obtain ⟨f, hf⟩ : ∃ z, U[i].field = z := ⟨_, rfl⟩
      obtain ⟨xe, hxe⟩ : ∃ z, U[i].text = z := ⟨_, rfl⟩
      rw [hf] at c1 hkt hcnt
      rw [hxe] at c2 htx hkt
      have hfb : FieldOk (bare (f, [])) := ⟨by show -9223372036854775808 ≤ f; omega, by show f ≤ 9223372036854775807; omega⟩
      have HFB := Lib.hid hfb
      have HKT := Lib.hid hkt
      have HKF := Lib.hid (keys_few HU.out (i + 1))
      have HRB := Lib.hid hrb
      have hael : (ae.add (i * 3)).block < bs := by rw [add_block] at hbl ⊢; exact hbl
      clear hf hxe hkt hcnt hfb hfit hil c0 hrb
      go_wp2_with fail
      refine (rlist_any xe wr (by omega)).mono ?_
      rintro e W2 ⟨vw, rfl, hvw, hbw⟩
      have HLL := Lib.hid (list_few xe)
      obtain ⟨L, hL⟩ : ∃ L, listP xe = L := ⟨_, rfl⟩
      rw [hL] at hvw HKT HLL
      obtain ⟨AW, cW, rfl, hw1, hw2, hws⟩ := hvw.strs
      obtain ⟨nL, hnL⟩ : ∃ nL, L.length = nL := ⟨_, rfl⟩
      rw [hnL] at hws hw1 hvw HLL ⊢
      have HNL := Lib.hid hnL
      have hnL9 : nL ≤ 200 := by have := HLL.out; omega
      have HWS := Lib.hid hws
      have HVW := Lib.hid hvw
      have HRB2 := Lib.hid (HRB.out.below hbw)
      have hz2 := HRB2.out.size
      have c1' : W2.cell? ⟨(ae.add (i * 3)).block, (ae.add (i * 3)).off + 1, none⟩ = some (.int .i64 f) := (hbw.cell (p := ⟨(ae.add (i * 3)).block, _, none⟩) (by show (ae.add (i * 3)).block < _; omega)).trans c1
      have hwb : bs + 1 ≤ wr.heap.size := by omega
      have HWAT := Lib.hid (fun (wq : World) (hq : Off (fun b => b = bs) W2 wq) (j : Nat) (hj : j < L.length) => show ∃ ad, AW = some ad ∧ wq.cell? (ad.add j) = some (.string (ba L[j])) from by
        have h1 := (HVW.out.block (w' := wq) fun b e => hq.block b (HVW.out.lt b e).2 (by have := (HVW.out.lt b e).1; show ¬ b = bs; omega))
        obtain ⟨A9, c9, e9, _, _, h9⟩ := h1.strs
        rw [HNL.out] at e9 h9
        injection e9 with e9 e10 e11
        subst e9
        obtain ⟨ad, e, _, hc⟩ := h9.at_ hj
        exact ⟨ad, e, hc⟩)
      have HFLD := Lib.hid (fun (wq : World) (hq : Off (fun b => b = bs) W2 wq) => show wq.cell? ⟨(ae.add (i * 3)).block, (ae.add (i * 3)).off + 1, none⟩ = some (.int .i64 f) from
        (World.cell?_of_block (a := ⟨(ae.add (i * 3)).block, _, none⟩) (hq.block _ (by show (ae.add (i * 3)).block < _; omega) (by show ¬ (ae.add (i * 3)).block = bs; omega))).trans c1')
      have HINI3 := Lib.hid (show R2 w g bs U (some ae) nE dv docs (keysR (U.take i) ++ (L.take 0).map fun y => (f, y)) W2 ∧ Off (fun b => b = bs) W2 W2 from ⟨⟨tv, by simpa using HRB2.out⟩, Off.refl _ _⟩)
      clear hL hnL hws hvw hbw c1 c1' c2 HR
      go_wp2
      go_loopw [8] (fun q wr => ∃ j : Nat, j ≤ nL ∧ q = .int .i64 (j : Int) ∧ Hid (R2 w g bs U (some ae) nE dv docs (keysR (U.take i) ++ (L.take j).map fun y => (f, y)) wr ∧ Off (fun b => b = bs) W2 wr)) (fun q _ => nL - (intOf q).toNat)
      case atStart => exact ⟨0, Nat.zero_le _, rfl, HINI3.out⟩
      case round =>
        obtain ⟨j, hj, rfl, HR⟩ := hrel
        obtain ⟨⟨tv, hrb⟩, hoff⟩ := HR.out
        by_cases hjn : j < nL
        · have hj2 : (j : Int) < nL := by omega
          have hj0 : (0 : Int) ≤ (j : Int) := by omega
          have hjl : j < L.length := by rw [HNL.out]; exact hjn
          have hsz3 := hrb.size
          obtain ⟨aw, rfl, d0⟩ := HWAT.out wr hoff j hjl
          have d1 := HFLD.out wr hoff
          have hks : keysR (U.take i) ++ (L.take (j + 1)).map (fun y => (f, y)) = keysR (U.take i) ++ (L.take j).map (fun y => (f, y)) ++ [(f, L[j])] := by rw [map_take_snoc _ hjl, List.append_assoc]
          obtain ⟨y, hy⟩ : ∃ y, L[j] = y := ⟨_, rfl⟩
          rw [hy] at d0 hks
          obtain ⟨ks, hksd⟩ : ∃ ks, keysR (U.take i) ++ (L.take j).map (fun y => (f, y)) = ks := ⟨_, rfl⟩
          rw [hksd] at hrb hks
          have hts9 : ks.length ≤ 4800 := by
            have h1 := HKF.out
            rw [HKT.out, List.length_append, List.length_map] at h1
            rw [← hksd, List.length_append, List.length_map, List.length_take]
            omega
          have HKS := Lib.hid hks
          have HRB3 := Lib.hid hrb
          have HOFF3 := Lib.hid hoff
          have hlen := termsR_len ks
          have hasc := termsR_asc ks
          have hbare := termsR_bare ks
          have hsn := termsR_snoc ks (f, y)
          obtain ⟨ts, hts⟩ : ∃ ts, termsR ks = ts := ⟨_, rfl⟩
          rw [hts] at HRB3 hlen hasc hbare hsn
          have HSN := Lib.hid hsn
          have HBARE := Lib.hid hbare
          obtain ⟨AT, cT, rfl, ht1, ht2, -⟩ := HRB3.out.trm.trms
          obtain ⟨nT, hnT⟩ : ∃ nT, ts.length = nT := ⟨_, rfl⟩
          have HNT := Lib.hid hnT
          rw [hnT] at HRB3 ht1 hlen
          have hnT9 : nT ≤ 4800 := by omega
          clear hy hksd hks hrb hoff hasc hbare hsn hts hnT hjl HR
          go_wp2
          go_region_held3 (fun w' => w'.cell? ⟨(ae.add (i * 3)).block, (ae.add (i * 3)).off + 1, none⟩ = some (.int .i64 f) ∧ w'.cell? (aw.add j) = some (.string (ba y)))
            (first | (go_split_ands; refine ⟨?_, ?_⟩ <;> first | assumption | go_keep))
            (fail)
          all_goals
            obtain ⟨bt, hbt⟩ : ∃ bt, wr.heap.size = bt := ⟨_, rfl⟩
            have hb3 : Below wr.heap.size wr (wr.alloc (.cells #[.int .i64 f, .string (ba y), .string ⟨#[]⟩] 47)).drew := ((Below.refl _ _).alloc (Nat.le_refl _) _).drew
            have k0 : (wr.alloc (.cells #[.int .i64 f, .string (ba y), .string ⟨#[]⟩] 47)).drew.cell? ⟨wr.heap.size, 0, none⟩ = some (.int .i64 f) := by go_simp
            have k1 : (wr.alloc (.cells #[.int .i64 f, .string (ba y), .string ⟨#[]⟩] 47)).drew.cell? ⟨wr.heap.size, 1, none⟩ = some (.string (ba y)) := by go_simp
            have k2 : (wr.alloc (.cells #[.int .i64 f, .string (ba y), .string ⟨#[]⟩] 47)).drew.cell? ⟨wr.heap.size, 2, none⟩ = some (.string ⟨#[]⟩) := by go_simp
            have hz : (wr.alloc (.cells #[.int .i64 f, .string (ba y), .string ⟨#[]⟩] 47)).drew.heap.size = wr.heap.size + 1 := by show (wr.alloc _).heap.size = _; simp
            obtain ⟨W3, hW3⟩ : ∃ W3, (wr.alloc (.cells #[.int .i64 f, .string (ba y), .string ⟨#[]⟩] 47)).drew = W3 := ⟨_, rfl⟩
            rw [hW3] at hb3 k0 k1 k2 hz ⊢
            have HRB4 := Lib.hid (HRB3.out.below hb3)
            have HOFF4 := Lib.hid (HOFF3.out.trans (Off.of_below (F := fun b => b = bs) hb3 fun i h1 h2 => by omega))
            rw [hbt] at k0 k1 k2 hz hsz3 ⊢
            clear hW3 hbt hb3 d0 d1 HRB3 HOFF3
            go_wp2
            go_loopw [10] (fun q wr => ∃ k : Nat, k ≤ nT ∧ q = .int .i64 (k : Int) ∧ Hid (∀ j, j < k → cmpT (ti ts j) (bare (f, y)) < 0) ∧ Hid (Below W3.heap.size W3 wr)) (fun q _ => nT - (intOf q).toNat)
            case atStart => exact ⟨0, Nat.zero_le _, rfl, Lib.hid (fun j hj => absurd hj (by omega)), Lib.hid (Below.refl _ _)⟩
            case round =>
              obtain ⟨k, hk, rfl, HAHD, HB5⟩ := hrel
              have hsz5 := HB5.out.size
              have HRB5 := Lib.hid (HRB4.out.below HB5.out)
              have b0 := (box0 HRB5.out.box).1
              have e0 : wr.cell? ⟨bt, 0, none⟩ = some (.int .i64 f) := (HB5.out.cell (p := ⟨bt, 0, none⟩) (by show bt < _; omega)).trans k0
              have e1 : wr.cell? ⟨bt, 1, none⟩ = some (.string (ba y)) := (HB5.out.cell (p := ⟨bt, 1, none⟩) (by show bt < _; omega)).trans k1
              have e2 : wr.cell? ⟨bt, 2, none⟩ = some (.string ⟨#[]⟩) := (HB5.out.cell (p := ⟨bt, 2, none⟩) (by show bt < _; omega)).trans k2
              obtain ⟨cb, hcb⟩ : ∃ cb, (decide (k < nT) && decide (cmpT (ti ts k) (bare (f, y)) < 0)) = cb := ⟨_, rfl⟩
              have HCBE := Lib.hid hcb
              clear hcb
              go_wp2
              go_cut [76] from 63 to 76 (fun v wc => v = .bool cb ∧ Hid (Below wr.heap.size wr wc))
              case first =>
                by_cases hkn : k < nT
                · have hk1 : decide (k < nT) = true := decide_eq_true hkn
                  have hk2 : decide ((k : Int) < (nT : Int)) = true := decide_eq_true (by omega)
                  have hk3 : (k : Int) < (nT : Int) := by omega
                  have hk4 : (0 : Int) ≤ (k : Int) := by omega
                  obtain ⟨A9, c9, e9, -, -, htr⟩ := HRB5.out.trm.trms
                  rw [HNT.out] at e9 htr
                  injection e9 with e9 e10 e11
                  subst e9
                  obtain ⟨ad, rfl, hbl9, p0, p1, p2, -⟩ := htr.at_ hkn
                  have hcb := HCBE.out
                  rw [hk1, Bool.true_and] at hcb
                  obtain ⟨t, ht⟩ : ∃ t, ti ts k = t := ⟨_, rfl⟩
                  rw [ht] at p0 p1 p2 hcb
                  obtain ⟨f1, x1, l1⟩ := t
                  dsimp only at p0 p1 p2
                  have HAH0 := Lib.hid (show aheadB ⟨f1, x1, l1⟩ ⟨f, y, []⟩ = cb from hcb)
                  clear ht hcb htr e10
                  cases cb
                  · have HCB := Lib.hid (show false = false from rfl)
                    have HAH := HAH0
                    as_aux_lemma =>
                      refine wp_region_run (by kernel_rfl) ?_
                      refine AnyS.seg (fuel := 2) 0 12 (by kernel_rfl) (by kernel_rfl) (by kernel_rfl) ?_
                      simp only [List.drop_zero, List.take_succ_cons, List.take_zero]
                      iterate 12 (refine stillS_step (fun K hK => ?_); go_simp; refine hK _ ?_; clear hK K)
                      refine stillS_nil ?_
                      go_simp

                      refine ⟨wpAny_ready (rs := [12]) (by kernel_rfl) (by simp) ?_⟩
                      refine AllReady.cons rfl (fun K hK => ?_) AllReady.nil
                      go_simp
                      refine (rahead_eq f1 f x1 y l1 [] false wr.drew HAH.out).mono ?_
                      rintro e w6 ⟨rfl, hb6⟩
                      have HB6 := Lib.hid ((Below.refl wr.heap.size wr).drew.trans hb6)
                      clear hb6
                      refine hK _ _ ?_
                      clear hK K
                      refine AnyS.out ?_
                      go_simp
                      refine AnyS.seg (fuel := 0) 13 1 (by kernel_rfl) (by kernel_rfl) (by kernel_rfl) ?_
                      simp only [List.drop_succ_cons, List.drop_zero, List.take_succ_cons, List.take_zero]
                      iterate 1 (refine stillS_step (fun K hK => ?_); go_simp; refine hK _ ?_; clear hK K)
                      refine stillS_nil ?_
                      go_simp

                      refine AnyS.done (by kernel_rfl) ?_
                      go_wp2
                      go_meet
                      case rel => exact ⟨rfl, HB6⟩
                  · have HCB := Lib.hid (show true = true from rfl)
                    have HAH := HAH0
                    as_aux_lemma =>
                      refine wp_region_run (by kernel_rfl) ?_
                      refine AnyS.seg (fuel := 2) 0 12 (by kernel_rfl) (by kernel_rfl) (by kernel_rfl) ?_
                      simp only [List.drop_zero, List.take_succ_cons, List.take_zero]
                      iterate 12 (refine stillS_step (fun K hK => ?_); go_simp; refine hK _ ?_; clear hK K)
                      refine stillS_nil ?_
                      go_simp

                      refine ⟨wpAny_ready (rs := [12]) (by kernel_rfl) (by simp) ?_⟩
                      refine AllReady.cons rfl (fun K hK => ?_) AllReady.nil
                      go_simp
                      refine (rahead_eq f1 f x1 y l1 [] true wr.drew HAH.out).mono ?_
                      rintro e w6 ⟨rfl, hb6⟩
                      have HB6 := Lib.hid ((Below.refl wr.heap.size wr).drew.trans hb6)
                      clear hb6
                      refine hK _ _ ?_
                      clear hK K
                      refine AnyS.out ?_
                      go_simp
                      refine AnyS.seg (fuel := 0) 13 1 (by kernel_rfl) (by kernel_rfl) (by kernel_rfl) ?_
                      simp only [List.drop_succ_cons, List.drop_zero, List.take_succ_cons, List.take_zero]
                      iterate 1 (refine stillS_step (fun K hK => ?_); go_simp; refine hK _ ?_; clear hK K)
                      refine stillS_nil ?_
                      go_simp

                      refine AnyS.done (by kernel_rfl) ?_
                      go_wp2
                      go_meet
                      case rel => exact ⟨rfl, HB6⟩
                · have hk1 : decide (k < nT) = false := decide_eq_false hkn
                  have hk2 : decide ((k : Int) < (nT : Int)) = false := decide_eq_false (by omega)
                  have HCB := Lib.hid (show false = cb by rw [← HCBE.out, hk1]; rfl)
                  go_quiet (fail)
                  go_wp2
                  go_meet
                  case rel => exact ⟨by rw [← HCB.out], Lib.hid (Below.drewN (Below.refl _ _) _)⟩
              case rest =>
                obtain ⟨rfl, HC⟩ := hcut
                cases cb
                · have hstop : k < nT → ¬ cmpT (ti ts k) (bare (f, y)) < 0 := fun h1 h2 => by
                    have := HCBE.out
                    rw [decide_eq_true h1, decide_eq_true h2] at this
                    cases this
                  have HPOS := Lib.hid (posT_at ts (f, y) k (by rw [HNT.out]; exact hk) HAHD.out (fun h => hstop (by rw [HNT.out] at h; exact h)))
                  obtain ⟨W5, rfl⟩ : ∃ W5, W5 = wc := ⟨_, rfl⟩
                  have HB6 := Lib.hid (HB5.out.trans (HC.out.mono hsz5))
                  have hsz6 := HB6.out.size
                  have HRBV := Lib.hid (HRB4.out.below HB6.out)
                  have v0 := (box0 HRBV.out.box).1
                  have f0 : W5.cell? ⟨bt, 0, none⟩ = some (.int .i64 f) := (HB6.out.cell (p := ⟨bt, 0, none⟩) (by show bt < _; omega)).trans k0
                  have f1_ : W5.cell? ⟨bt, 1, none⟩ = some (.string (ba y)) := (HB6.out.cell (p := ⟨bt, 1, none⟩) (by show bt < _; omega)).trans k1
                  have f2 : W5.cell? ⟨bt, 2, none⟩ = some (.string ⟨#[]⟩) := (HB6.out.cell (p := ⟨bt, 2, none⟩) (by show bt < _; omega)).trans k2
                  obtain ⟨eb, heb⟩ : ∃ eb, decide (k < nT ∧ keyT (ti ts k) = (f, y)) = eb := ⟨_, rfl⟩
                  have HEBE := Lib.hid heb
                  clear heb hstop b0 e0 e1 e2 HAHD HCBE HRB5
                  go_wp2
                  go_cut [105] from 79 to 105 (fun v wc => v = .bool eb ∧ Hid (Below W5.heap.size W5 wc))
                  case first =>
                    by_cases hkn : k < nT
                    · have hk1 : decide (k < nT) = true := decide_eq_true hkn
                      have hk2 : decide ((k : Int) < (nT : Int)) = true := decide_eq_true (by omega)
                      have hk3 : (k : Int) < (nT : Int) := by omega
                      have hk4 : (0 : Int) ≤ (k : Int) := by omega
                      obtain ⟨A9, c9, e9, -, -, htr⟩ := HRBV.out.trm.trms
                      rw [HNT.out] at e9 htr
                      injection e9 with e9 e10 e11
                      subst e9
                      obtain ⟨ad, rfl, hbl9, p0, p1, -, -⟩ := htr.at_ hkn
                      have heb := HEBE.out
                      obtain ⟨t, ht⟩ : ∃ t, ti ts k = t := ⟨_, rfl⟩
                      rw [ht] at p0 p1 heb
                      obtain ⟨f1, x1, l1⟩ := t
                      dsimp only at p0 p1
                      have HEB2 := Lib.hid heb
                      clear ht heb htr e10
                      by_cases g1 : f1 = f
                      · have j1 : (f1 == f) = true := by simpa using g1
                        by_cases g2 : x1 = y
                        · have HEB := Lib.hid (show true = eb by rw [← HEB2.out]; exact (decide_eq_true ⟨hkn, by rw [g1, g2]; rfl⟩).symm)
                          have j2 : ((ba x1).toList == (ba y).toList) = true := by rw [g2]; simp
                          clear g1 g2
                          go_quiet (fail)
                          go_wp2
                          go_meet
                          case rel => exact ⟨by rw [← HEB.out], Lib.hid (Below.drewN (Below.refl _ _) _)⟩
                        · have HEB := Lib.hid (show false = eb by rw [← HEB2.out]; exact (decide_eq_false (fun h => g2 (Prod.mk.inj h.2).2)).symm)
                          have j2 : ((ba x1).toList == (ba y).toList) = false := by rw [ba_toList, ba_toList]; simpa using g2
                          obtain ⟨xb, hxb⟩ : ∃ xb, ba x1 = xb := ⟨_, rfl⟩
                          obtain ⟨yb, hyb⟩ : ∃ yb, ba y = yb := ⟨_, rfl⟩
                          rw [hxb] at p1 j2
                          rw [hyb] at f1_ j2
                          clear g1 g2 hxb hyb
                          go_quiet (fail)
                          go_wp2
                          go_meet
                          case rel => exact ⟨by rw [← HEB.out], Lib.hid (Below.drewN (Below.refl _ _) _)⟩
                      · have HEB := Lib.hid (show false = eb by rw [← HEB2.out]; exact (decide_eq_false (fun h => g1 (Prod.mk.inj h.2).1)).symm)
                        have j1 : (f1 == f) = false := by simpa using g1
                        clear g1
                        go_quiet (fail)
                        go_wp2
                        go_meet
                        case rel => exact ⟨by rw [← HEB.out], Lib.hid (Below.drewN (Below.refl _ _) _)⟩
                    · have hk1 : decide (k < nT) = false := decide_eq_false hkn
                      have hk2 : decide ((k : Int) < (nT : Int)) = false := decide_eq_false (by omega)
                      have HEB := Lib.hid (show false = eb by rw [← HEBE.out]; exact (decide_eq_false (fun h => hkn h.1)).symm)
                      go_quiet (fail)
                      go_wp2
                      go_meet
                      case rel => exact ⟨by rw [← HEB.out], Lib.hid (Below.drewN (Below.refl _ _) _)⟩
                  case rest =>
                    obtain ⟨rfl, HC2⟩ := hcut
                    have HB7 := Lib.hid (HB6.out.trans (HC2.out.mono hsz6))
                    have hsz7 := HB7.out.size
                    have HRBC := Lib.hid (HRB4.out.below HB7.out)
                    have HOFFC := Lib.hid (HOFF4.out.trans (Off.of_below (F := fun b => b = bs) HB7.out fun i h1 h2 => by omega))
                    cases eb
                    · have hne : ¬ (k < nT ∧ keyT (ti ts k) = (f, y)) := of_decide_eq_false HEBE.out
                      have HADD := Lib.hid (show addT ts (f, y) = [] ++ ts.take k ++ [⟨f, y, []⟩] ++ ts.drop k by
                        unfold addT
                        rw [HPOS.out, if_neg (by rw [HNT.out]; exact hne), List.nil_append]
                        rfl)
                      have q0 := (box0 HRBC.out.box).1
                      have hbsz := HRBC.out.size
                      have g0 : wc.cell? ⟨bt, 0, none⟩ = some (.int .i64 f) := (HB7.out.cell (p := ⟨bt, 0, none⟩) (by show bt < _; omega)).trans k0
                      have g1 : wc.cell? ⟨bt, 1, none⟩ = some (.string (ba y)) := (HB7.out.cell (p := ⟨bt, 1, none⟩) (by show bt < _; omega)).trans k1
                      have g2 : wc.cell? ⟨bt, 2, none⟩ = some (.string ⟨#[]⟩) := (HB7.out.cell (p := ⟨bt, 2, none⟩) (by show bt < _; omega)).trans k2
                      obtain ⟨A9, c9, e9, -, -, htr⟩ := HRBC.out.trm.trms
                      rw [HNT.out] at e9 htr
                      injection e9 with e9 e10 e11
                      subst e9; subst e11
                      have hk4 : (0 : Int) ≤ (k : Int) := by omega
                      have hk5 : (k : Int) ≤ (nT : Int) := by omega
                      have hk6 : (k : Int) ≤ (cT : Int) := by omega
                      have hk7 : (nT : Int) ≤ (cT : Int) := by omega
                      have HI1 := Lib.hid (htr.cutA k hk)
                      have hl1 : (([] : List Trm).length + k) ≤ 1000000000 := by simp; omega
                      have HNIL := Lib.hid (OwnTrms.nil_ wc wc.heap.size)
                      have HTR := Lib.hid htr
                      clear hne htr e10 v0 f0 f1_ f2
                      by_cases hkc : k = cT
                      · have hkn : k = nT := by omega
                        subst hkn
                        subst hkc
                        go_wp2_with (first
                          | (at_builtin; (refine wpList_joinT HNIL.out (Nat.le_refl _) HI1.out hl1 rfl (.tmp 106) (.tmp 110) 25 _ rfl Tryz.underlying25 rfl rfl ?_; intro v1 w1 hown1 hg1 hat1); (
                              obtain ⟨A1, cc1, hv1, -, -⟩ := hown1.shape
                              have hl2 : ([] ++ ts.take k : List Trm).length = k := by rw [List.nil_append, List.length_take, HNT.out]; omega
                              rw [hl2] at hv1
                              subst hv1
                              have H1 := Lib.hid hown1
                              have HG1 := Lib.hid (show Below wc.heap.size wc w1 from (Below.refl _ _).grown hg1 (Nat.le_refl _) (fun i e => by cases e))
                              have hB1 : wc.heap.size ≤ w1.heap.size := hg1.size
                              have HAL := Lib.hid (show ([] ++ ts.take k : List Trm).length ≤ 1000000000 by rw [hl2]; omega)
                              have m0 : w1.cell? ⟨bt, 0, none⟩ = some (.int .i64 f) := (HG1.out.cell (p := ⟨bt, 0, none⟩) (by show bt < _; omega)).trans g0
                              have m1 : w1.cell? ⟨bt, 1, none⟩ = some (.string (ba y)) := (HG1.out.cell (p := ⟨bt, 1, none⟩) (by show bt < _; omega)).trans g1
                              have m2 : w1.cell? ⟨bt, 2, none⟩ = some (.string ⟨#[]⟩) := (HG1.out.cell (p := ⟨bt, 2, none⟩) (by show bt < _; omega)).trans g2
                              clear hown1 hg1 hat1 hl2 HNIL))
                          | (at_builtin; (refine wpList_pushTrm (f := f) (x := y) (l := []) H1.out hB1 HFB.out HAL.out rfl (.tmp 112) (.tmp 114) 1 rfl rfl rfl ?_; intro v2 w2 hown2 hg2); (
                              obtain ⟨A2, cc2, hv2, -, -⟩ := hown2.shape
                              have hl3 : (([] ++ ts.take k) ++ [⟨f, y, []⟩] : List Trm).length = k + 1 := by rw [List.length_append, List.nil_append, List.length_take, HNT.out, List.length_singleton]; omega
                              rw [hl3] at hv2
                              subst hv2
                              have H2 := Lib.hid hown2
                              have HG2 := Lib.hid (show Below wc.heap.size wc w2 from HG1.out.grown hg2 (by have := HG1.out.size; omega) fun i e => (H1.out.row.lt i e).1)
                              have hB2 : wc.heap.size ≤ w2.heap.size := HG2.out.size
                              have HAL2 := Lib.hid (show (([] ++ ts.take k) ++ [⟨f, y, []⟩] : List Trm).length + 0 ≤ 1000000000 by rw [hl3]; omega)
                              have HI2 := Lib.hid (fun (A : Option Addr) => show Trms w2 wc.heap.size A 0 (ts.drop k) by rw [List.drop_of_length_le (by rw [HNT.out]; omega)]; exact Trms.nil_)
                              have n0 : w2.cell? ⟨bs, 0, none⟩ = some (.slice AT k k) := (HG2.out.cell (p := ⟨bs, 0, none⟩) (by show bs < _; omega)).trans q0
                              clear hown2 hg2 hl3 H1))
                          | (at_builtin; (refine wpList_joinT H2.out hB2 (HI2.out _) HAL2.out rfl (.tmp 116) (.tmp 120) 25 _ rfl Tryz.underlying25 rfl rfl ?_; intro v3 w3 hown3 hg3 hat3); (
                              obtain ⟨A3, cc3, hv3, -, -⟩ := hown3.shape
                              obtain ⟨n9, hn9⟩ : ∃ n9, (([] ++ ts.take k) ++ [⟨f, y, []⟩] ++ ts.drop k : List Trm).length = n9 := ⟨_, rfl⟩
                              rw [hn9] at hv3
                              clear hn9
                              subst hv3
                              have HG3 := Lib.hid (show Below wc.heap.size wc w3 from HG2.out.grown hg3 (by have := HG2.out.size; omega) fun i e => (H2.out.row.lt i e).1)
                              have HRB6 := Lib.hid (HRBC.out.below HG3.out)
                              have r0 : w3.cell? ⟨bs, 0, none⟩ = some (.slice AT k k) := (box0 HRB6.out.box).1
                              have r1 : w3.frozen? ⟨bs, 0, none⟩ = false := (box0 HRB6.out.box).2.2.1
                              have HSET := Lib.hid (HRB6.out.setT (hown3.more (B' := bs + 1) (by omega)))
                              have HOF6 := Lib.hid ((HOFFC.out.trans (Off.of_below HG3.out fun i h1 h2 => by omega)).setCell (p := ⟨bs, 0, none⟩) (.inl rfl) (.slice A3 n9 cc3))
                              clear hown3 hg3 hat3 H2)))
                        go_roundw
                        case rel =>
                          refine ⟨j + 1, by omega, by go_num, Lib.hid (And.intro ⟨.slice A3 n9 cc3, ?_⟩ ?_)⟩
                          · rw [HKS.out, HSN.out, HADD.out]
                            exact HSET.out
                          · exact HOF6.out
                        case measure => simp [intOf] <;> omega
                      · obtain ⟨ad, rfl⟩ : ∃ ad, AT = some ad := by
                          cases AT with
                          | some ad => exact ⟨ad, rfl⟩
                          | none =>
                            exfalso
                            rcases HRBC.out.trm.row.2 with ⟨e, _⟩ | ⟨g', cap, cur, e, _⟩
                            · injection e with e1 e2 e3
                              omega
                            · cases e
                        go_wp2_with (first
                          | (at_builtin; (refine wpList_joinT HNIL.out (Nat.le_refl _) HI1.out hl1 rfl (.tmp 106) (.tmp 110) 25 _ rfl Tryz.underlying25 rfl rfl ?_; intro v1 w1 hown1 hg1 hat1); (
                              obtain ⟨A1, cc1, hv1, -, -⟩ := hown1.shape
                              have hl2 : ([] ++ ts.take k : List Trm).length = k := by rw [List.nil_append, List.length_take, HNT.out]; omega
                              rw [hl2] at hv1
                              subst hv1
                              have H1 := Lib.hid hown1
                              have HG1 := Lib.hid (show Below wc.heap.size wc w1 from (Below.refl _ _).grown hg1 (Nat.le_refl _) (fun i e => by cases e))
                              have hB1 : wc.heap.size ≤ w1.heap.size := hg1.size
                              have HAL := Lib.hid (show ([] ++ ts.take k : List Trm).length ≤ 1000000000 by rw [hl2]; omega)
                              have m0 : w1.cell? ⟨bt, 0, none⟩ = some (.int .i64 f) := (HG1.out.cell (p := ⟨bt, 0, none⟩) (by show bt < _; omega)).trans g0
                              have m1 : w1.cell? ⟨bt, 1, none⟩ = some (.string (ba y)) := (HG1.out.cell (p := ⟨bt, 1, none⟩) (by show bt < _; omega)).trans g1
                              have m2 : w1.cell? ⟨bt, 2, none⟩ = some (.string ⟨#[]⟩) := (HG1.out.cell (p := ⟨bt, 2, none⟩) (by show bt < _; omega)).trans g2
                              clear hown1 hg1 hat1 hl2 HNIL))
                          | (at_builtin; (refine wpList_pushTrm (f := f) (x := y) (l := []) H1.out hB1 HFB.out HAL.out rfl (.tmp 112) (.tmp 114) 1 rfl rfl rfl ?_; intro v2 w2 hown2 hg2); (
                              obtain ⟨A2, cc2, hv2, -, -⟩ := hown2.shape
                              have hl3 : (([] ++ ts.take k) ++ [⟨f, y, []⟩] : List Trm).length = k + 1 := by rw [List.length_append, List.nil_append, List.length_take, HNT.out, List.length_singleton]; omega
                              rw [hl3] at hv2
                              subst hv2
                              have H2 := Lib.hid hown2
                              have HG2 := Lib.hid (show Below wc.heap.size wc w2 from HG1.out.grown hg2 (by have := HG1.out.size; omega) fun i e => (H1.out.row.lt i e).1)
                              have hB2 : wc.heap.size ≤ w2.heap.size := HG2.out.size
                              have HAL2 := Lib.hid (show (([] ++ ts.take k) ++ [⟨f, y, []⟩] : List Trm).length + (nT - k) ≤ 1000000000 by rw [hl3]; omega)
                              have HI2 := Lib.hid (show Trms w2 wc.heap.size (some (ad.add (k * 3))) (nT - k) (ts.drop k) from (HTR.out.cutB k (by omega)).below HG2.out)
                              have n0 : w2.cell? ⟨bs, 0, none⟩ = some (.slice (some ad) nT cT) := (HG2.out.cell (p := ⟨bs, 0, none⟩) (by show bs < _; omega)).trans q0
                              clear hown2 hg2 hl3 H1))
                          | (at_builtin; (refine wpList_joinT H2.out hB2 HI2.out HAL2.out rfl (.tmp 116) (.tmp 120) 25 (cT - k) rfl Tryz.underlying25 rfl rfl ?_; intro v3 w3 hown3 hg3 hat3); (
                              obtain ⟨A3, cc3, hv3, -, -⟩ := hown3.shape
                              obtain ⟨n9, hn9⟩ : ∃ n9, (([] ++ ts.take k) ++ [⟨f, y, []⟩] ++ ts.drop k : List Trm).length = n9 := ⟨_, rfl⟩
                              rw [hn9] at hv3
                              clear hn9
                              subst hv3
                              have HG3 := Lib.hid (show Below wc.heap.size wc w3 from HG2.out.grown hg3 (by have := HG2.out.size; omega) fun i e => (H2.out.row.lt i e).1)
                              have HRB6 := Lib.hid (HRBC.out.below HG3.out)
                              have r0 : w3.cell? ⟨bs, 0, none⟩ = some (.slice (some ad) nT cT) := (box0 HRB6.out.box).1
                              have r1 : w3.frozen? ⟨bs, 0, none⟩ = false := (box0 HRB6.out.box).2.2.1
                              have HSET := Lib.hid (HRB6.out.setT (hown3.more (B' := bs + 1) (by omega)))
                              have HOF6 := Lib.hid ((HOFFC.out.trans (Off.of_below HG3.out fun i h1 h2 => by omega)).setCell (p := ⟨bs, 0, none⟩) (.inl rfl) (.slice A3 n9 cc3))
                              clear hown3 hg3 hat3 H2)))
                        go_roundw
                        case rel =>
                          refine ⟨j + 1, by omega, by go_num, Lib.hid (And.intro ⟨.slice A3 n9 cc3, ?_⟩ ?_)⟩
                          · rw [HKS.out, HSN.out, HADD.out]
                            exact HSET.out
                          · exact HOF6.out
                        case measure => simp [intOf] <;> omega
                    · have hye : k < nT ∧ keyT (ti ts k) = (f, y) := of_decide_eq_true HEBE.out
                      have HADD := Lib.hid (show addT ts (f, y) = ts by
                        unfold addT
                        rw [HPOS.out, if_pos (by rw [HNT.out]; exact hye)])
                      clear hye
                      go_wp2
                      go_roundw
                      case rel =>
                        refine ⟨j + 1, by omega, by go_num, Lib.hid (And.intro ⟨.slice AT nT cT, ?_⟩ ?_)⟩
                        · rw [HKS.out, HSN.out, HADD.out]
                          exact HRBC.out
                        · exact HOFFC.out
                      case measure => simp [intOf] <;> omega
                · have hcc := HCBE.out
                  rw [Bool.and_eq_true] at hcc
                  have hkn : k < nT := of_decide_eq_true hcc.1
                  have hah := of_decide_eq_true hcc.2
                  have HAH2 := Lib.hid (show ∀ j, j < k + 1 → cmpT (ti ts j) (bare (f, y)) < 0 from fun j hj => by
                    rcases Nat.lt_or_ge j k with h | h
                    · exact HAHD.out j h
                    · have : j = k := by omega
                      subst this; exact hah)
                  clear hcc hah
                  go_wp2
                  go_roundw
                  case rel => exact ⟨k + 1, by omega, by go_num, HAH2, Lib.hid (HB5.out.trans (HC.out.mono hsz5))⟩
                  case measure => simp [intOf] <;> omega
        · have hks : (L.take j) = L := List.take_of_length_le (by rw [HNL.out]; omega)
          rw [hks] at hrb
          have HST := Lib.hid (show R2 w g bs U (some ae) nE dv docs (keysR (U.take (i + 1))) wr from ⟨tv, by rw [HKT.out]; exact hrb⟩)
          clear hks hrb hoff HR
          go_wp2
          go_roundw
          case rel => exact ⟨i + 1, by omega, by go_num, HST⟩
          case measure => simp [intOf] <;> omega
    · obtain rfl : i = nE := by omega
      have HF := Lib.hid (show U.take i = U by rw [List.take_of_length_le (by rw [HNE.out]; exact Nat.le_refl _)])
      rw [HF.out] at hrb
      have HRB := Lib.hid hrb
      rw [← HDOCS.out] at HRB
      clear hrb HR
      go_wp2
      apply HKK.out
      exact HRB.out
end Go.Proofs.YtfinpehbpcckaaaGreatDoor
