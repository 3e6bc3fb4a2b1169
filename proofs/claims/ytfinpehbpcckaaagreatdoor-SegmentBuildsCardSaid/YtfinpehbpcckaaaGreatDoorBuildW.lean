/- Layer 34: the region of Build that appends a place to a word's row (turned by hand from what gen_buildW.py prints: go_region_held3). -/
import Derived.Test.YtfinpehbpcckaaaGreatDoorM18
import Derived.Deep.RegionHeld3
import Derived.Deep.DrawnRows
namespace Go.Proofs.YtfinpehbpcckaaaGreatDoor
open Go.RowKit
set_option linter.unusedVariables false
attribute [local go_sem ↓] Go.wp_at_zero Go.wp_at_succ

/-- The region of a number. -/
def regAt (n : Nat) : Code → Option Code
  | .region id ops dr => if id = n then some (.region id ops dr) else none
  | .seq a b => match regAt n a with
    | some c => some c
    | none => regAt n b
  | .cond _ a b => match regAt n a with
    | some c => some c
    | none => regAt n b
  | .block _ a => regAt n a
  | .loop a => regAt n a
  | _ => none
noncomputable def build3 : Code := (regAt 16 ((Tryz.f11.body).getD .skip)).getD .skip
set_option maxRecDepth 100000 in
set_option maxHeartbeats 16000000 in
theorem build_push (t0 t1 t2 t3 t4 t6 t8 t10 t12 t13 t14 t15 t16 t17 t18 t19 t20 t21 t22 t23 t24 t25 t26 t27 t28 t29 t30 t31 t32 t33 t34 t35 t36 t37 t38 t39 t40 t41 t42 t43 t44 t45 t46 t47 t48 t49 t50 t51 t52 t53 t54 t55 t56 t57 t58 t59 t60 t61 t62 t63 t64 t65 t66 t67 t68 t69 t70 t71 t72 t73 t74 t75 t76 t77 t78 t79 t80 t81 t82 t83 t84 t85 t86 t87 t88 t89 t90 t91 t92 t93 t94 t95 t96 t97 t98 t99 t100 t101 t102 t103 t104 t105 t106 t107 t108 t109 t110 t111 t112 t113 t114 t115 t116 t117 t118 t119 t120 t121 t122 t123 : Value) (Q : Exit → Act → World → Prop) (B T be kb bJ cI j : Nat) (f d : Int) (x : List UInt8) (EVJ : List Ev) (tagJ : Nat → Own) (kmJ : Key → Option Value) (wc : World)
    (jT : TermsAt wc B tagJ T EVJ (fun u => u = (f, x)) kmJ (cI + 1)) (jK : kmJ (f, x) = some (.map (some bJ))) (k0 : wc.cell? ⟨kb, 0, none⟩ = some (.int .i64 f)) (k1 : wc.cell? ⟨kb, 1, none⟩ = some (.string (ba x))) (e0 : wc.cell? ⟨be, 0, none⟩ = some (.int .i64 d))
    (jkb : tagJ kb = .out) (jbe : tagJ be = .out) (hkb : kb < wc.heap.size) (hbe : be < wc.heap.size) (hkf : KeyFits (f, x)) (hdf : intK.fits d) (hcI : cI < 1000000000000) (hev : EVJ.length ≤ 500000000) (hj : j ≤ 1000000) (hB : B ≤ wc.heap.size)
    (hQ : ∀ (z64 z65 z66 z67 z68 z69 z70 z71 z72 z73 z74 z75 z76 z77 : Value) (w9 : World) (tag9 : Nat → Own), (∀ i, i < wc.heap.size → tagJ i = .out → tag9 i = .out) → TermsAt w9 B tag9 T (EVJ ++ [((f, x), d, (j : Int))]) (fun _ => False) kmJ (cI + 1 + 1) → Off (fun i => tagJ i ≠ .out) wc w9 → Q .normal { tmps := #[t0, t1, t2, t3, t4, .map (some T), t6, .pointer (some ⟨be, 0, none⟩), t8, .int .i64 (j : Int), t10, .pointer (some ⟨kb, 0, none⟩), t12, t13, t14, t15, t16, t17, t18, t19, t20, t21, t22, t23, t24, t25, t26, t27, t28, t29, t30, t31, t32, t33, t34, t35, t36, t37, t38, t39, t40, t41, t42, t43, t44, t45, t46, t47, t48, t49, t50, t51, t52, t53, t54, t55, t56, t57, t58, t59, t60, t61, t62, t63, z64, z65, z66, z67, z68, z69, z70, z71, z72, z73, z74, z75, z76, z77, t78, t79, t80, t81, t82, t83, t84, t85, t86, t87, t88, t89, t90, t91, t92, t93, t94, t95, t96, t97, t98, t99, t100, t101, t102, t103, t104, t105, t106, t107, t108, t109, t110, t111, t112, t113, t114, t115, t116, t117, t118, t119, t120, t121, t122, t123], defers := [] } w9) :
    Code.wp Tryz.prog build3 Q { tmps := #[t0, t1, t2, t3, t4, .map (some T), t6, .pointer (some ⟨be, 0, none⟩), t8, .int .i64 (j : Int), t10, .pointer (some ⟨kb, 0, none⟩), t12, t13, t14, t15, t16, t17, t18, t19, t20, t21, t22, t23, t24, t25, t26, t27, t28, t29, t30, t31, t32, t33, t34, t35, t36, t37, t38, t39, t40, t41, t42, t43, t44, t45, t46, t47, t48, t49, t50, t51, t52, t53, t54, t55, t56, t57, t58, t59, t60, t61, t62, t63, t64, t65, t66, t67, t68, t69, t70, t71, t72, t73, t74, t75, t76, t77, t78, t79, t80, t81, t82, t83, t84, t85, t86, t87, t88, t89, t90, t91, t92, t93, t94, t95, t96, t97, t98, t99, t100, t101, t102, t103, t104, t105, t106, t107, t108, t109, t110, t111, t112, t113, t114, t115, t116, t117, t118, t119, t120, t121, t122, t123], defers := [] } wc := by
  have HQ := Lib.hid hQ
  have HKF := Lib.hid hkf
  have HDF := Lib.hid hdf
  have HTM := Lib.hid jT
  have HKM := Lib.hid jK
  have HX := Lib.hid (fun (u : Key) (h : (fun u : Key => u = (f, x)) u) => (h : u = (f, x)))
  have HKB := Lib.hid jkb
  have HBEO := Lib.hid jbe
  clear hQ hkf hdf jT jK jkb jbe
  obtain ⟨b, dm, hvb, t1, t2, t3, t4, t5⟩ := HTM.out.inner HKF.out HKM.out
  injection hvb with hvb
  injection hvb with hvb
  subst hvb
  have hrow := t5 d HDF.out
  obtain ⟨A0, c0', hv0, hc01, hc02, -⟩ := hrow.1.ints
  obtain ⟨acc, hacc⟩ : ∃ acc, placesE EVJ (f, x) d = acc := ⟨_, rfl⟩
  have hal := placesE_len EVJ (f, x) d
  rw [hacc] at hv0 hal
  have HACC := Lib.hid hacc
  have hbl := HTM.out.lt (b := bJ) (by rw [t1]; simp)
  have hTl := HTM.out.lt (b := T) (by rw [HTM.out.top]; simp)
  have hTb : T ≠ bJ := by intro e; have h0 := HTM.out.top; rw [e, t1] at h0; cases h0
  have lT0 : (Instr.lookup 55 (.map (some (T))) (.agg #[.int .i64 f, .string (ba x)]) false).run Tryz.prog wc.drew = .ok (.map (some bJ)) wc.drew := by
    have := MapAt.look (w := wc.drew) (K := keyK) (show MapAt keyK wc.drew (T) kmJ (cI + 1) from HTM.out.map) Tryz.underlying55 (zero61 _) HKF.out
    rw [HKM.out] at this
    exact this
  have lT1 : (Instr.lookup 55 (.map (some (T))) (.agg #[.int .i64 f, .string (ba x)]) false).run Tryz.prog (wc.alloc (.cells #[.int .i64 (j : Int)] 3)).drew = .ok (.map (some bJ)) (wc.alloc (.cells #[.int .i64 (j : Int)] 3)).drew := by
    have := MapAt.look (w := (wc.alloc (.cells #[.int .i64 (j : Int)] 3)).drew) (K := keyK) (MapAt.keep HTM.out.map (heap_alloc_old wc _ hTl)) Tryz.underlying55 (zero61 _) HKF.out
    rw [HKM.out] at this
    exact this
  have lB0 : (Instr.lookup 61 (.map (some bJ)) (.int .i64 d) false).run Tryz.prog wc.drew = .ok (.slice A0 acc.length c0') wc.drew := by
    have := MapAt.look (w := wc.drew) (K := intK) (show MapAt intK wc.drew bJ dm (cI + 1) from t2) Tryz.underlying61 (zero26 _) HDF.out
    rw [← hv0]
    exact this
  have lB1 : (Instr.lookup 61 (.map (some bJ)) (.int .i64 d) false).run Tryz.prog (wc.alloc (.cells #[.int .i64 (j : Int)] 3)).drew = .ok (.slice A0 acc.length c0') (wc.alloc (.cells #[.int .i64 (j : Int)] 3)).drew := by
    have := MapAt.look (w := (wc.alloc (.cells #[.int .i64 (j : Int)] 3)).drew) (K := intK) (MapAt.keep t2 (heap_alloc_old wc _ hbl)) Tryz.underlying61 (zero26 _) HDF.out
    rw [← hv0]
    exact this
  have m0 : (wc.alloc (.cells #[.int .i64 (j : Int)] 3)).cell? ⟨kb, 0, none⟩ = some (.int .i64 f) := (World.cell?_of_block (a := ⟨kb, 0, none⟩) (heap_alloc_old wc _ (by show kb < wc.heap.size; omega))).trans k0
  have m1 : (wc.alloc (.cells #[.int .i64 (j : Int)] 3)).cell? ⟨kb, 1, none⟩ = some (.string (ba x)) := (World.cell?_of_block (a := ⟨kb, 1, none⟩) (heap_alloc_old wc _ (by show kb < wc.heap.size; omega))).trans k1
  have m2 : (wc.alloc (.cells #[.int .i64 (j : Int)] 3)).cell? ⟨be, 0, none⟩ = some (.int .i64 d) := (World.cell?_of_block (a := ⟨be, 0, none⟩) (heap_alloc_old wc _ (by show be < wc.heap.size; omega))).trans e0
  have HOWN := Lib.hid (show OwnInts wc B (.slice A0 acc.length c0') acc by
    have h0 := hrow.1
    rw [hacc, hv0] at h0
    exact h0)
  have T1 := Lib.hid t1
  have T2 := Lib.hid t2
  have T3 := Lib.hid t3
  have T4 := Lib.hid t4
  have T5 := Lib.hid hrow
  have HV0 := Lib.hid hv0
  have hjb : -9223372036854775808 ≤ (j : Int) ∧ (j : Int) ≤ 9223372036854775807 := by omega
  have hBW : B ≤ wc.heap.size := by omega
  have hAL : acc.length < 1099511627776 := by omega
  have HAL := Lib.hid hAL
  have hcx : (cI + 1) < maxLen := by simp only [maxLen]; omega
  have HCX := Lib.hid hcx
  clear t1 t2 t3 t4 t5 hrow hv0 hacc hal hAL hcx hc01 hc02
  have HARM := Lib.hid (fun (v' : Value) (w8 : World) (hown8 : OwnInts w8 B v' (acc ++ [(j : Int)])) (hg8 : wc.grownBy w8 (Value.slice A0 acc.length c0').ownBlock) (hat8 : v'.ownBlock = (Value.slice A0 acc.length c0').ownBlock ∨ ∃ k, v'.ownBlock = some k ∧ wc.heap.size ≤ k) =>
    show ∃ A8 c8, v' = .slice A8 (acc.length + 1) c8 ∧ ((Instr.lookup 55 (.map (some (T))) (.agg #[.int .i64 f, .string (ba x)]) false).run Tryz.prog w8 = .ok (.map (some bJ)) w8) ∧ w8.cell? ⟨kb, 0, none⟩ = some (.int .i64 f) ∧ w8.cell? ⟨kb, 1, none⟩ = some (.string (ba x)) ∧ w8.cell? ⟨be, 0, none⟩ = some (.int .i64 d) ∧
      ∃ w9, (Instr.mapUpdate 61 (.map (some bJ)) (.int .i64 d) v').run Tryz.prog w8 = .ok () w9 ∧ ∃ tag9 : Nat → Own, (∀ i, i < wc.heap.size → tagJ i = .out → tag9 i = .out) ∧ TermsAt w9 B tag9 T (EVJ ++ [((f, x), d, (j : Int))]) (fun _ => False) kmJ (cI + 1 + 1) ∧ Off (fun i => tagJ i ≠ .out) wc w9 from by
        obtain ⟨A8, c8, hv8, -, -, -⟩ := hown8.ints
        rw [List.length_append, List.length_singleton] at hv8
        subst hv8
        have hg8' : wc.grownBy w8 (rowOr dm d).ownBlock := by rw [HV0.out]; exact ⟨hg8.os, hg8.tape, hg8.output, hg8.size, hg8.block⟩
        obtain ⟨w9, hrun9, tag9, htag9, hT9, hO9⟩ := TermsAt.push (k := (j : Int)) HTM.out HX.out HCX.out HKF.out HDF.out HKM.out T1.out T2.out T3.out T4.out T5.out (by rw [HACC.out]; exact hown8) hg8' (by rw [HV0.out]; exact hat8)
        have hrn : ∀ i, i < wc.heap.size → (∀ dd, tagJ i ≠ .row (f, x) dd) → w8.heap[i]? = wc.heap[i]? := fun i hi hn => hg8'.block i hi fun e => hn d (T5.out.2 i e.symm)
        have hT8 := hrn (T) hTl (fun dd => by rw [HTM.out.top]; simp)
        have lT2 : (Instr.lookup 55 (.map (some (T))) (.agg #[.int .i64 f, .string (ba x)]) false).run Tryz.prog w8 = .ok (.map (some bJ)) w8 := by
          have := MapAt.look (w := w8) (K := keyK) (HTM.out.map.keep hT8) Tryz.underlying55 (zero61 _) HKF.out
          rw [HKM.out] at this
          exact this
        have n0 : w8.cell? ⟨kb, 0, none⟩ = some (.int .i64 f) := (World.cell?_of_block (a := ⟨kb, 0, none⟩) (hrn kb (by omega) (fun dd => by rw [HKB.out]; simp))).trans k0
        have n1 : w8.cell? ⟨kb, 1, none⟩ = some (.string (ba x)) := (World.cell?_of_block (a := ⟨kb, 1, none⟩) (hrn kb (by omega) (fun dd => by rw [HKB.out]; simp))).trans k1
        have n2 : w8.cell? ⟨be, 0, none⟩ = some (.int .i64 d) := (World.cell?_of_block (a := ⟨be, 0, none⟩) (hrn be (by omega) (fun dd => by rw [HBEO.out]; simp))).trans e0
        exact ⟨A8, c8, rfl, lT2, n0, n1, n2, w9, hrun9, tag9, htag9, hT9, hO9⟩)
  clear HTM HX HCX HDF T1 T2 T3 T4 T5 HACC HV0 hTl hbl hTb
  unfold build3
  simp only [regAt, Tryz.f11, Option.getD_some, reduceIte, Nat.reduceEqDiff]
  go_region_held3 (fun w' => w'.cell? ⟨kb, 0, none⟩ = some (.int .i64 f) ∧ w'.cell? ⟨kb, 1, none⟩ = some (.string (ba x)) ∧ w'.cell? ⟨be, 0, none⟩ = some (.int .i64 d) ∧
      (Instr.lookup 55 (.map (some (T))) (.agg #[.int .i64 f, .string (ba x)]) false).run Tryz.prog w' = .ok (.map (some bJ)) w')
    (first
      | (go_split_ands
         refine ⟨by first | assumption | go_keep, by first | assumption | go_keep, by first | assumption | go_keep, ?_⟩
         first | assumption | exact lT0 | exact lT1 | exact lT2 | exact lT3))
    ((refine step_push_drew (W := wc) HOWN.out hBW hjb HAL.out rfl (.tmp 74) (.tmp 76) 26 1 rfl Tryz.underlying26 rfl rfl ?_; intro v' w8 hown8 hg8 hat8; obtain ⟨A8, c8, rfl, lT2, n0, n1, n2, w9, hrun9, tag9, hfin⟩ := HARM.out v' w8 hown8 hg8 hat8; have HFIN := Lib.hid hfin; clear hown8 hg8 hat8 hfin; (
      have q0 : w9.cell? ⟨kb, 0, none⟩ = some (.int .i64 f) := (World.cell?_of_block (a := ⟨kb, 0, none⟩) (HFIN.out.2.2.block kb hkb (by rw [HKB.out]; simp))).trans k0
      have q1 : w9.cell? ⟨kb, 1, none⟩ = some (.string (ba x)) := (World.cell?_of_block (a := ⟨kb, 1, none⟩) (HFIN.out.2.2.block kb hkb (by rw [HKB.out]; simp))).trans k1
      have q2 : w9.cell? ⟨be, 0, none⟩ = some (.int .i64 d) := (World.cell?_of_block (a := ⟨be, 0, none⟩) (HFIN.out.2.2.block be hbe (by rw [HBEO.out]; simp))).trans e0
      have lT3 : (Instr.lookup 55 (.map (some (T))) (.agg #[.int .i64 f, .string (ba x)]) false).run Tryz.prog w9 = .ok (.map (some bJ)) w9 := by
        have := MapAt.look (w := w9) (K := keyK) (HFIN.out.2.1.map) Tryz.underlying55 (zero61 _) HKF.out
        rw [HKM.out] at this
        exact this)))
  all_goals exact HQ.out _ _ _ _ _ _ _ _ _ _ _ _ _ _ _ _ HFIN.out.1 HFIN.out.2.1 HFIN.out.2.2
end Go.Proofs.YtfinpehbpcckaaaGreatDoor
