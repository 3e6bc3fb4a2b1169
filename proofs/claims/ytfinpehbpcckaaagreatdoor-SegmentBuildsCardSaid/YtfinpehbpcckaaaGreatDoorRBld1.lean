/- Layer 34: the reference's Build: its start and its first loop (printed by gen_rbuild.py). -/
import Derived.Test.YtfinpehbpcckaaaGreatDoorRBldH
namespace Go.Proofs.YtfinpehbpcckaaaGreatDoor
open Go.RowKit
set_option linter.unusedVariables false

def R1 (w : World) (g bs : Nat) (U : List Ent) (AE : Option Addr) (nE : Nat) (i : Nat) (wr : World) : Prop := ∃ dv, RB w g bs U AE nE (.slice none 0 0) dv [] (docsR (U.take i)) wr
set_option maxRecDepth 100000 in
set_option maxHeartbeats 16000000 in
theorem rseg_build_of (h2 : RTwo) (A : Option Addr) (n c : Nat) (es : List Ent) (w : World) (h : Ents w w.heap.size A n es) (hn : n ≤ 1000000) (hU : EFew (usedE es)) (hG : Goods (usedE es)) :
    Calls Tryz.prog 12 #[.slice A n c] w (BuildPost w (usedE es)) := by
  have H := Lib.hid h
  have H2 := Lib.hid h2
  obtain ⟨U, hUe⟩ : ∃ U, usedE es = U := ⟨_, rfl⟩
  have HUE := Lib.hid hUe
  have HU := Lib.hid hU
  have HGD := Lib.hid hG
  rw [hUe] at HU HGD ⊢
  clear h h2 hU hG hUe
  go_enter Tryz.func12, Tryz.ntmps12
  have hb0 : Below w.heap.size w (w.alloc (.cells #[.slice none 0 0, .slice none 0 0] 28)) := (Below.refl _ _).alloc (Nat.le_refl _) _
  have hg0 : (w.alloc (.cells #[.slice none 0 0, .slice none 0 0] 28)).heap[w.heap.size]? = some (.cells #[.slice none 0 0, .slice none 0 0] 28 (0, 0)) := (MapKept.heap_alloc w _).1
  have hz0 : (w.alloc (.cells #[.slice none 0 0, .slice none 0 0] 28)).heap.size = w.heap.size + 1 := by simp
  go_wp2_with fail
  refine (rcounts_any A n c es _ ((H.out.below hb0).more hb0.size) hn).mono ?_
  rintro e w1 ⟨v1, rfl, hown1, hb1⟩
  rw [HUE.out] at hown1
  obtain ⟨AE, cE, rfl, hc1, hc2, hents⟩ := hown1.ents
  obtain ⟨nE, hnE⟩ : ∃ nE, U.length = nE := ⟨_, rfl⟩
  rw [hnE] at hents hc1 hown1 ⊢
  have HNE := Lib.hid hnE
  have hnE9 : nE ≤ 24 := by rw [← hnE]; exact HU.out.len
  have HB1 := Lib.hid (hb0.trans (hb1.mono hb0.size))
  have hg1 := (hb1.block w.heap.size (by omega)).trans hg0
  have hs1 : w.heap.size < w1.heap.size := by have := hb1.size; omega
  obtain ⟨bs, hbs⟩ : ∃ bs, w1.heap.size = bs := ⟨_, rfl⟩
  obtain ⟨g, hg⟩ : ∃ g, w.heap.size = g := ⟨_, rfl⟩
  have hbx : (w1.alloc (.cells #[.slice none 0 0, .slice none 0 0] 28)).heap[bs]? = some (.cells #[.slice none 0 0, .slice none 0 0] 28 (0, 0)) := by rw [← hbs]; exact (MapKept.heap_alloc w1 _).1
  have hbw : Below w1.heap.size w1 (w1.alloc (.cells #[.slice none 0 0, .slice none 0 0] 28)) := (Below.refl _ _).alloc (Nat.le_refl _) _
  have HRB0 := Lib.hid (show RB w g bs U AE nE (.slice none 0 0) (.slice none 0 0) [] (docsR (U.take 0)) (w1.alloc (.cells #[.slice none 0 0, .slice none 0 0] 28)) from
    ⟨HB1.out.trans (hbw.mono (by omega)), ⟨hg, by omega⟩, by rw [← hg]; exact (hbw.block _ hs1).trans hg1, by rw [← hbs]; exact hents.below hbw, hbx, OwnTrms.nil_ _ _, OwnInts.nil_ _ _⟩)
  clear hb0 hg0 hz0 hown1 hc1 hc2 hents hnE hb1 hg1 hbx hbw
  go_wp2
  obtain ⟨W1, hW1⟩ : ∃ W1, w1.alloc (.cells #[.slice none 0 0, .slice none 0 0] 28) = W1 := ⟨_, rfl⟩
  rw [hW1] at HRB0 ⊢
  have HG := Lib.hid hg
  clear hW1 hbs hs1 hg
  rename_i K aK
  have HKK := Lib.hid (fun (t0 t1 t5 t6 t7 t8 t9 t10 t11 t12 t13 t14 t15 t16 t17 t18 t19 t20 t21 t22 t23 t24 t25 t26 t27 t28 t29 t30 t31 t32 t33 t34 t35 t36 t37 t38 t39 t40 t41 t42 t43 t44 t45 t46 t47 t48 t49 t50 t51 t52 t53 t54 t55 t56 t57 t58 t59 t60 t61 t62 t63 t64 t65 t66 t67 t68 t69 t70 t71 t72 t73 t74 t75 t76 t77 t78 t79 t80 t81 t82 t83 t84 t85 t86 t87 t88 t89 t90 t91 t92 t93 t94 t95 t96 t97 t98 t99 t100 t101 t102 t103 t104 t105 t106 t107 t108 t109 t110 t111 t112 t113 t114 t115 t116 t117 t118 t119 t120 t121 t122 t123 t124 t125 t126 t127 t128 t129 t130 t131 t132 t133 t134 t135 t136 t137 t138 t139 t140 t141 t142 t143 t144 t145 t146 t147 t148 t149 t150 t151 t152 t153 t154 t155 t156 t157 t158 t159 t160 t161 t162 t163 t164 t165 t166 t167 t168 t169 t170 t171 t172 t173 t174 t175 t176 t177 t178 t179 t180 t181 t182 t183 t184 t185 t186 t187 t188 t189 t190 t191 t192 t193 t194 t195 t196 t197 t198 t199 t200 t201 : Value) (dv : Value) (W : World) (hrb : RB w g bs U AE nE (.slice none 0 0) dv [] (docsR U) W) => aK { tmps := #[t0, t1, .pointer (some ⟨g, 0, none⟩), .slice AE nE cE, .pointer (some ⟨bs, 0, none⟩), t5, t6, t7, t8, t9, t10, t11, t12, t13, t14, t15, t16, t17, t18, t19, t20, t21, t22, t23, t24, t25, t26, t27, t28, t29, t30, t31, t32, t33, t34, t35, t36, t37, t38, t39, t40, t41, t42, t43, t44, t45, t46, t47, t48, t49, t50, t51, t52, t53, t54, t55, t56, t57, t58, t59, t60, t61, t62, t63, t64, t65, t66, t67, t68, t69, t70, t71, t72, t73, t74, t75, t76, t77, t78, t79, t80, t81, t82, t83, t84, t85, t86, t87, t88, t89, t90, t91, t92, t93, t94, t95, t96, t97, t98, t99, t100, t101, t102, t103, t104, t105, t106, t107, t108, t109, t110, t111, t112, t113, t114, t115, t116, t117, t118, t119, t120, t121, t122, t123, t124, t125, t126, t127, t128, t129, t130, t131, t132, t133, t134, t135, t136, t137, t138, t139, t140, t141, t142, t143, t144, t145, t146, t147, t148, t149, t150, t151, t152, t153, t154, t155, t156, t157, t158, t159, t160, t161, t162, t163, t164, t165, t166, t167, t168, t169, t170, t171, t172, t173, t174, t175, t176, t177, t178, t179, t180, t181, t182, t183, t184, t185, t186, t187, t188, t189, t190, t191, t192, t193, t194, t195, t196, t197, t198, t199, t200, t201], defers := [] } W (H2.out t0 t1 t5 t6 t7 t8 t9 t10 t11 t12 t13 t14 t15 t16 t17 t18 t19 t20 t21 t22 t23 t24 t25 t26 t27 t28 t29 t30 t31 t32 t33 t34 t35 t36 t37 t38 t39 t40 t41 t42 t43 t44 t45 t46 t47 t48 t49 t50 t51 t52 t53 t54 t55 t56 t57 t58 t59 t60 t61 t62 t63 t64 t65 t66 t67 t68 t69 t70 t71 t72 t73 t74 t75 t76 t77 t78 t79 t80 t81 t82 t83 t84 t85 t86 t87 t88 t89 t90 t91 t92 t93 t94 t95 t96 t97 t98 t99 t100 t101 t102 t103 t104 t105 t106 t107 t108 t109 t110 t111 t112 t113 t114 t115 t116 t117 t118 t119 t120 t121 t122 t123 t124 t125 t126 t127 t128 t129 t130 t131 t132 t133 t134 t135 t136 t137 t138 t139 t140 t141 t142 t143 t144 t145 t146 t147 t148 t149 t150 t151 t152 t153 t154 t155 t156 t157 t158 t159 t160 t161 t162 t163 t164 t165 t166 t167 t168 t169 t170 t171 t172 t173 t174 t175 t176 t177 t178 t179 t180 t181 t182 t183 t184 t185 t186 t187 t188 t189 t190 t191 t192 t193 t194 t195 t196 t197 t198 t199 t200 t201 w g bs U AE nE cE (.slice none 0 0) dv W HU.out HGD.out hrb))
  clear aK
  go_loopw [5] (fun i wr => ∃ k : Nat, k ≤ nE ∧ i = .int .i64 (k : Int) ∧ Hid (R1 w g bs U AE nE k wr)) (fun i _ => nE - (intOf i).toNat)
  case atStart => exact ⟨0, Nat.zero_le _, rfl, _, HRB0.out⟩
  case round =>
    obtain ⟨k, hk, rfl, HR⟩ := hrel
    obtain ⟨dv, hrb⟩ := HR.out
    have hsz := hrb.size
    by_cases hlt : k < nE
    · have hk2 : (k : Int) < nE := by omega
      have hk0 : (0 : Int) ≤ (k : Int) := by omega
      have hkl : k < U.length := by rw [HNE.out]; exact hlt
      obtain ⟨ad, rfl, hbl, c0, -, -, hfit⟩ := hrb.ents.2 k hkl
      have hdt := docsR_take hkl
      obtain ⟨d, hd⟩ : ∃ d, U[k].doc = d := ⟨_, rfl⟩
      have hdb : -9223372036854775808 ≤ d ∧ d ≤ 9223372036854775807 := by
        have h1 := countsP_iff.1 (HGD.out.counts U[k] (List.getElem_mem hkl))
        rw [hd] at h1
        have h2 : far = 1099511627776 := rfl
        omega
      rw [hd] at c0 hdt
      have hdl := docsR_len (U.take k)
      rw [List.length_take] at hdl
      obtain ⟨b0, b1, bf0, bf1⟩ := box0 hrb.box
      have HRB := Lib.hid hrb
      have HDT := Lib.hid hdt
      have HPUT := Lib.hid (rput_any dv (docsR (U.take k)) d (bs + 1) wr.drew (show OwnInts wr.drew (bs + 1) dv _ from hrb.doc) (show bs + 1 ≤ wr.heap.size by omega) (docsR_asc _) hdb (by omega))
      clear hfit hd hdt hdl hkl hrb bf0 bf1 b0
      go_wp2
      go_region_law
        (first
          | (go_simp; go_at_call 40; refine HPUT.out.mono ?_; rintro e v1 ⟨dv', rfl, hown, hbel⟩; (
              obtain ⟨Ad, cd, rfl, -, -, -⟩ := hown.ints
              have HRB1 := Lib.hid (HRB.out.below (w' := v1) (show Below wr.heap.size wr v1 from ⟨hbel.os, hbel.tape, hbel.output, hbel.size, hbel.block⟩))
              have f0 : v1.cell? ⟨bs, 1, none⟩ = some dv := (box0 HRB1.out.box).2.1
              have f1 : v1.frozen? ⟨bs, 1, none⟩ = false := (box0 HRB1.out.box).2.2.2
              have HSET := Lib.hid (HRB1.out.setD hown)
              clear hown hbel HPUT))
          | fail)
      all_goals
        go_wp2
        go_roundw
        case rel => exact ⟨k + 1, by omega, by go_num, _, by rw [HDT.out]; exact HSET.out⟩
        case measure => simp [intOf] <;> omega
    · obtain rfl : k = nE := by omega
      have HF := Lib.hid (show U.take k = U by rw [List.take_of_length_le (by rw [HNE.out]; exact Nat.le_refl _)])
      rw [HF.out] at hrb
      have HRB := Lib.hid hrb
      clear hrb
      go_wp2
      apply HKK.out
      exact HRB.out
end Go.Proofs.YtfinpehbpcckaaaGreatDoor
