/- Layer 34: the second half of Build, named (printed by gen_buildTwo.py). -/
import Derived.Test.YtfinpehbpcckaaaGreatDoorM18
namespace Go.Proofs.YtfinpehbpcckaaaGreatDoor
open Go.RowKit
set_option linter.unusedVariables false

def codeTail : Nat → Code → Code
  | 0, c => c
  | k + 1, .seq _ b => codeTail k b
  | _ + 1, c => c
/-- All that follows the first loop. -/
noncomputable def build2 : Code := codeTail 5 ((Tryz.f11.body).getD .skip)
/-- What the second half of Build says. -/
def TwoSays : Prop := ∀ (t0 t1 t6 t7 t8 t9 t10 t11 t12 t13 t14 t15 t16 t17 t18 t19 t20 t21 t22 t23 t24 t25 t26 t27 t28 t29 t30 t31 t32 t33 t34 t35 t36 t37 t38 t39 t40 t41 t42 t43 t44 t45 t46 t47 t48 t49 t50 t51 t52 t53 t54 t55 t56 t57 t58 t59 t60 t61 t62 t63 t64 t65 t66 t67 t68 t69 t70 t71 t72 t73 t74 t75 t76 t77 t78 t79 t80 t81 t82 t83 t84 t85 t86 t87 t88 t89 t90 t91 t92 t93 t94 t95 t96 t97 t98 t99 t100 t101 t102 t103 t104 t105 t106 t107 t108 t109 t110 t111 t112 t113 t114 t115 t116 t117 t118 t119 t120 t121 t122 t123 : Value) (es : List Ent) (w : World) (g : Nat) (wr : World), EntsFew es → w.heap.size = g → BRel w g es es.length wr →
    Code.wp Tryz.prog build2 (bodyPost Tryz.prog Tryz.f11 (BuildPost w (usedE es))) { tmps := #[t0, t1, .pointer (some ⟨g, 0, none⟩), .map (some (g + 1)), .map (some (g + 1 + 1)), .map (some (g + 1 + 1 + 1)), t6, t7, t8, t9, t10, t11, t12, t13, t14, t15, t16, t17, t18, t19, t20, t21, t22, t23, t24, t25, t26, t27, t28, t29, t30, t31, t32, t33, t34, t35, t36, t37, t38, t39, t40, t41, t42, t43, t44, t45, t46, t47, t48, t49, t50, t51, t52, t53, t54, t55, t56, t57, t58, t59, t60, t61, t62, t63, t64, t65, t66, t67, t68, t69, t70, t71, t72, t73, t74, t75, t76, t77, t78, t79, t80, t81, t82, t83, t84, t85, t86, t87, t88, t89, t90, t91, t92, t93, t94, t95, t96, t97, t98, t99, t100, t101, t102, t103, t104, t105, t106, t107, t108, t109, t110, t111, t112, t113, t114, t115, t116, t117, t118, t119, t120, t121, t122, t123], defers := [] } wr
end Go.Proofs.YtfinpehbpcckaaaGreatDoor
