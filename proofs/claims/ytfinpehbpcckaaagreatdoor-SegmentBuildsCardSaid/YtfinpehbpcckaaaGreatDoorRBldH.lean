/- Layer 34: the reference's Build: its state and its parts, named (printed by gen_rbuild.py). -/
import Derived.Test.YtfinpehbpcckaaaGreatDoorRSegG
import Derived.Test.YtfinpehbpcckaaaGreatDoorJoinT
import Derived.Test.YtfinpehbpcckaaaGreatDoorM20
import Derived.Test.YtfinpehbpcckaaaGreatDoorM18
namespace Go.Proofs.YtfinpehbpcckaaaGreatDoor
open Go.RowKit
set_option linter.unusedVariables false

/-- The state: the result's box at g, the segment's at bs, its terms and its documents. -/
structure RB (w : World) (g bs : Nat) (U : List Ent) (AE : Option Addr) (nE : Nat) (tv dv : Value) (ts : List Trm) (docs : List Int) (wr : World) : Prop where
  bel : Below w.heap.size w wr
  lt : w.heap.size = g ∧ g < bs
  res : wr.heap[g]? = some (.cells #[.slice none 0 0, .slice none 0 0] 28 (0, 0))
  ents : Ents wr bs AE nE U
  box : wr.heap[bs]? = some (.cells #[tv, dv] 28 (0, 0))
  trm : OwnTrms wr (bs + 1) tv ts
  doc : OwnInts wr (bs + 1) dv docs
theorem RB.size {w wr : World} {g bs nE : Nat} {U : List Ent} {AE : Option Addr} {tv dv : Value} {ts : List Trm} {docs : List Int} (h : RB w g bs U AE nE tv dv ts docs wr) : bs < wr.heap.size := heap_lt h.box
theorem RB.below {w wr w' : World} {g bs nE : Nat} {U : List Ent} {AE : Option Addr} {tv dv : Value} {ts : List Trm} {docs : List Int} (h : RB w g bs U AE nE tv dv ts docs wr) (hb : Below wr.heap.size wr w') : RB w g bs U AE nE tv dv ts docs w' := by
  have hz := h.size
  have hl := h.lt
  exact ⟨h.bel.trans (hb.mono h.bel.size), h.lt, (hb.block g (by omega)).trans h.res, h.ents.below (hb.mono (by omega)), (hb.block bs hz).trans h.box, h.trm.below hb, h.doc.block fun i e => hb.block i (h.doc.1.lt i e).2⟩
theorem RB.setT {w wr : World} {g bs nE : Nat} {U : List Ent} {AE : Option Addr} {tv dv tv' : Value} {ts ts' : List Trm} {docs : List Int} (h : RB w g bs U AE nE tv dv ts docs wr) (ht : OwnTrms wr (bs + 1) tv' ts') : RB w g bs U AE nE tv' dv ts' docs (wr.setCell ⟨bs, 0, none⟩ tv') := by
  have hl := h.lt
  refine ⟨h.bel.setCell (by show w.heap.size ≤ bs; omega) _, h.lt, (heap_setCell_other _ _ _ _ (by show ¬ g = bs; omega)).trans h.res, h.ents.below ((Below.refl bs wr).setCell (p := ⟨bs, 0, none⟩) (Nat.le_refl _) _), heap_setCell_same wr bs 0 _ 28 tv' h.box, ?_, ?_⟩
  · exact ht.block fun i e => heap_setCell_other _ _ _ _ (by have := (ht.row.lt i e).1; show ¬ i = bs; omega)
  · exact h.doc.block fun i e => heap_setCell_other _ _ _ _ (by have := (h.doc.1.lt i e).1; show ¬ i = bs; omega)
theorem RB.setD {w wr : World} {g bs nE : Nat} {U : List Ent} {AE : Option Addr} {tv dv dv' : Value} {ts : List Trm} {docs docs' : List Int} (h : RB w g bs U AE nE tv dv ts docs wr) (hd : OwnInts wr (bs + 1) dv' docs') : RB w g bs U AE nE tv dv' ts docs' (wr.setCell ⟨bs, 1, none⟩ dv') := by
  have hl := h.lt
  refine ⟨h.bel.setCell (by show w.heap.size ≤ bs; omega) _, h.lt, (heap_setCell_other _ _ _ _ (by show ¬ g = bs; omega)).trans h.res, h.ents.below ((Below.refl bs wr).setCell (p := ⟨bs, 1, none⟩) (Nat.le_refl _) _), heap_setCell_same wr bs 1 _ 28 dv' h.box, ?_, ?_⟩
  · exact h.trm.block fun i e => heap_setCell_other _ _ _ _ (by have := (h.trm.row.lt i e).1; show ¬ i = bs; omega)
  · exact hd.block fun i e => heap_setCell_other _ _ _ _ (by have := (hd.1.lt i e).1; show ¬ i = bs; omega)
/-- A row of terms and a row of numbers lie apart. -/
theorem rows_apart {w : World} {B C : Nat} {tv dv : Value} {ts : List Trm} {docs : List Int} (ht : OwnTrms w B tv ts) (hd : OwnInts w C dv docs) {i : Nat} (e1 : tv.ownBlock = some i) (e2 : dv.ownBlock = some i) : False := by
  rcases ht.row.2 with ⟨rfl, _⟩ | ⟨g1, cap, cur, rfl, _, h1, _⟩
  · cases e1
  · rcases hd.1.2 with ⟨rfl, _⟩ | ⟨g2, cap2, cur2, rfl, _, h2, _⟩
    · cases e2
    · injection e1 with e1
      injection e2 with e2
      subst e1; subst e2
      rw [h1] at h2
      injection h2 with h2
      injection h2 with _ h3 _
      revert h3; decide
/-- A cell of the row of terms written. -/
theorem RB.setL {w wr : World} {g bs nE b n c k : Nat} {U : List Ent} {AE : Option Addr} {dv : Value} {ts : List Trm} {docs : List Int} (h : RB w g bs U AE nE (.slice (some ⟨b, 0, none⟩) n c) dv ts docs wr) (hk : k < ts.length) (l : List UInt8) :
    RB w g bs U AE nE (.slice (some ⟨b, 0, none⟩) n c) dv (ts.set k { ts[k] with list := l }) docs (wr.setCell ⟨b, k * 3 + 2, none⟩ (.string (ba l))) := by
  have hl := h.lt
  have hb := (h.trm.row.lt b rfl).1
  refine ⟨h.bel.setCell (by show w.heap.size ≤ b; omega) _, h.lt, (heap_setCell_other _ _ _ _ (by show ¬ g = b; omega)).trans h.res, h.ents.below ((Below.refl bs wr).setCell (p := ⟨b, _, none⟩) (by show bs ≤ b; omega) _), (heap_setCell_other _ _ _ _ (by show ¬ bs = b; omega)).trans h.box, h.trm.setList hk l, ?_⟩
  exact h.doc.block fun i e => heap_setCell_other _ _ _ _ (by show ¬ i = b; rintro rfl; exact rows_apart h.trm h.doc rfl e)
theorem RB.setL' {w wr : World} {g bs nE n c k : Nat} {ad : Addr} {U : List Ent} {AE : Option Addr} {dv : Value} {ts : List Trm} {docs : List Int} (h : RB w g bs U AE nE (.slice (some ad) n c) dv ts docs wr) (hk : k < ts.length) (l : List UInt8) :
    RB w g bs U AE nE (.slice (some ad) n c) dv (ts.set k { ts[k] with list := l }) docs (wr.setCell ⟨(ad.add (k * 3)).block, (ad.add (k * 3)).off + 2, none⟩ (.string (ba l))) := by
  obtain ⟨bT, rfl⟩ : ∃ bT, ad = ⟨bT, 0, none⟩ := by
    rcases h.trm.row.2 with ⟨e, _⟩ | ⟨g', cap, cur, e, _⟩
    · cases e
    · injection e with e
      injection e with e
      exact ⟨g', e⟩
  have e1 : (Addr.add ⟨bT, 0, none⟩ (k * 3)).off = k * 3 := by
    unfold Addr.add
    split
    · rename_i e0; rw [e0]
    · show 0 + k * 3 = k * 3; omega
  rw [add_block, e1]
  exact h.setL hk l
theorem OwnTrms.unfrozen {w : World} {B n c : Nat} {ad : Addr} {ts : List Trm} (h : OwnTrms w B (.slice (some ad) n c) ts) (i : Nat) : w.frozen? ⟨ad.block, i, none⟩ = false ∧ ad.block < w.heap.size := by
  rcases h.row.2 with ⟨e, _⟩ | ⟨g', cap, cur, e, _, hg, _⟩
  · cases e
  · injection e with e
    injection e with e
    subst e
    exact ⟨by simp [World.frozen?, hg], heap_lt hg⟩
theorem evOf_keys (e : Ent) : (evOf e).map (·.1) = (listP e.text).map fun y => (e.field, y) := by
  unfold evOf
  rw [List.map_map]
  have : ((fun x : Ev => x.1) ∘ fun q : List UInt8 × Nat => ((e.field, q.1), e.doc, (q.2 : Int))) = (fun y => (e.field, y)) ∘ Prod.fst := rfl
  rw [this, ← List.map_map, List.zipIdx_map_fst]
theorem keysR_take {U : List Ent} {i : Nat} (hi : i < U.length) : keysR (U.take (i + 1)) = keysR (U.take i) ++ (listP U[i].text).map fun y => (U[i].field, y) := by
  unfold keysR
  rw [List.take_succ_eq_append_getElem hi, evsOf_snoc, List.map_append, evOf_keys]
theorem map_take_snoc {α β : Type} (f : α → β) {L : List α} {j : Nat} (hj : j < L.length) : (L.take (j + 1)).map f = (L.take j).map f ++ [f L[j]] := by
  rw [List.take_succ_eq_append_getElem hj, List.map_append]; rfl
theorem docsR_take {U : List Ent} {i : Nat} (hi : i < U.length) : docsR (U.take (i + 1)) = withP (docsR (U.take i)) U[i].doc := by
  rw [List.take_succ_eq_append_getElem hi, docsR_snoc]
/-- How many keys there are. -/
theorem keys_few {U : List Ent} (hU : EFew U) (i : Nat) : (keysR (U.take i)).length ≤ 4800 := by
  unfold keysR
  rw [List.length_map]
  have h1 := evs_few (U := U.take i) (N := 200) fun e he => hU.text e (List.mem_of_mem_take he)
  have h2 : (U.take i).length ≤ 24 := by rw [List.length_take]; have := hU.len; omega
  have := Nat.mul_le_mul_left 200 h2
  omega
def codeTailR : Nat → Code → Code
  | 0, c => c
  | k + 1, .seq _ b => codeTailR k b
  | _ + 1, c => c
noncomputable def rbuild2 : Code := codeTailR 4 ((Tryz.f12.body).getD .skip)
noncomputable def rbuild3 : Code := codeTailR 5 ((Tryz.f12.body).getD .skip)
/-- What the last loop says. -/
def RThree : Prop := ∀ (t0 t1 t5 t6 t7 t8 t9 t10 t11 t12 t13 t14 t15 t16 t17 t18 t19 t20 t21 t22 t23 t24 t25 t26 t27 t28 t29 t30 t31 t32 t33 t34 t35 t36 t37 t38 t39 t40 t41 t42 t43 t44 t45 t46 t47 t48 t49 t50 t51 t52 t53 t54 t55 t56 t57 t58 t59 t60 t61 t62 t63 t64 t65 t66 t67 t68 t69 t70 t71 t72 t73 t74 t75 t76 t77 t78 t79 t80 t81 t82 t83 t84 t85 t86 t87 t88 t89 t90 t91 t92 t93 t94 t95 t96 t97 t98 t99 t100 t101 t102 t103 t104 t105 t106 t107 t108 t109 t110 t111 t112 t113 t114 t115 t116 t117 t118 t119 t120 t121 t122 t123 t124 t125 t126 t127 t128 t129 t130 t131 t132 t133 t134 t135 t136 t137 t138 t139 t140 t141 t142 t143 t144 t145 t146 t147 t148 t149 t150 t151 t152 t153 t154 t155 t156 t157 t158 t159 t160 t161 t162 t163 t164 t165 t166 t167 t168 t169 t170 t171 t172 t173 t174 t175 t176 t177 t178 t179 t180 t181 t182 t183 t184 t185 t186 t187 t188 t189 t190 t191 t192 t193 t194 t195 t196 t197 t198 t199 t200 t201 : Value) (w : World) (g bs : Nat) (U : List Ent) (AE : Option Addr) (nE cE : Nat) (tv dv : Value) (wr : World), EFew U → Goods U → RB w g bs U AE nE tv dv (termsR (keysR U)) (docsR U) wr →
    Code.wp Tryz.prog rbuild3 (bodyPost Tryz.prog Tryz.f12 (BuildPost w U)) { tmps := #[t0, t1, .pointer (some ⟨g, 0, none⟩), .slice AE nE cE, .pointer (some ⟨bs, 0, none⟩), t5, t6, t7, t8, t9, t10, t11, t12, t13, t14, t15, t16, t17, t18, t19, t20, t21, t22, t23, t24, t25, t26, t27, t28, t29, t30, t31, t32, t33, t34, t35, t36, t37, t38, t39, t40, t41, t42, t43, t44, t45, t46, t47, t48, t49, t50, t51, t52, t53, t54, t55, t56, t57, t58, t59, t60, t61, t62, t63, t64, t65, t66, t67, t68, t69, t70, t71, t72, t73, t74, t75, t76, t77, t78, t79, t80, t81, t82, t83, t84, t85, t86, t87, t88, t89, t90, t91, t92, t93, t94, t95, t96, t97, t98, t99, t100, t101, t102, t103, t104, t105, t106, t107, t108, t109, t110, t111, t112, t113, t114, t115, t116, t117, t118, t119, t120, t121, t122, t123, t124, t125, t126, t127, t128, t129, t130, t131, t132, t133, t134, t135, t136, t137, t138, t139, t140, t141, t142, t143, t144, t145, t146, t147, t148, t149, t150, t151, t152, t153, t154, t155, t156, t157, t158, t159, t160, t161, t162, t163, t164, t165, t166, t167, t168, t169, t170, t171, t172, t173, t174, t175, t176, t177, t178, t179, t180, t181, t182, t183, t184, t185, t186, t187, t188, t189, t190, t191, t192, t193, t194, t195, t196, t197, t198, t199, t200, t201], defers := [] } wr
/-- What the second loop and the last say. -/
def RTwo : Prop := ∀ (t0 t1 t5 t6 t7 t8 t9 t10 t11 t12 t13 t14 t15 t16 t17 t18 t19 t20 t21 t22 t23 t24 t25 t26 t27 t28 t29 t30 t31 t32 t33 t34 t35 t36 t37 t38 t39 t40 t41 t42 t43 t44 t45 t46 t47 t48 t49 t50 t51 t52 t53 t54 t55 t56 t57 t58 t59 t60 t61 t62 t63 t64 t65 t66 t67 t68 t69 t70 t71 t72 t73 t74 t75 t76 t77 t78 t79 t80 t81 t82 t83 t84 t85 t86 t87 t88 t89 t90 t91 t92 t93 t94 t95 t96 t97 t98 t99 t100 t101 t102 t103 t104 t105 t106 t107 t108 t109 t110 t111 t112 t113 t114 t115 t116 t117 t118 t119 t120 t121 t122 t123 t124 t125 t126 t127 t128 t129 t130 t131 t132 t133 t134 t135 t136 t137 t138 t139 t140 t141 t142 t143 t144 t145 t146 t147 t148 t149 t150 t151 t152 t153 t154 t155 t156 t157 t158 t159 t160 t161 t162 t163 t164 t165 t166 t167 t168 t169 t170 t171 t172 t173 t174 t175 t176 t177 t178 t179 t180 t181 t182 t183 t184 t185 t186 t187 t188 t189 t190 t191 t192 t193 t194 t195 t196 t197 t198 t199 t200 t201 : Value) (w : World) (g bs : Nat) (U : List Ent) (AE : Option Addr) (nE cE : Nat) (tv dv : Value) (wr : World), EFew U → Goods U → RB w g bs U AE nE tv dv [] (docsR U) wr →
    Code.wp Tryz.prog rbuild2 (bodyPost Tryz.prog Tryz.f12 (BuildPost w U)) { tmps := #[t0, t1, .pointer (some ⟨g, 0, none⟩), .slice AE nE cE, .pointer (some ⟨bs, 0, none⟩), t5, t6, t7, t8, t9, t10, t11, t12, t13, t14, t15, t16, t17, t18, t19, t20, t21, t22, t23, t24, t25, t26, t27, t28, t29, t30, t31, t32, t33, t34, t35, t36, t37, t38, t39, t40, t41, t42, t43, t44, t45, t46, t47, t48, t49, t50, t51, t52, t53, t54, t55, t56, t57, t58, t59, t60, t61, t62, t63, t64, t65, t66, t67, t68, t69, t70, t71, t72, t73, t74, t75, t76, t77, t78, t79, t80, t81, t82, t83, t84, t85, t86, t87, t88, t89, t90, t91, t92, t93, t94, t95, t96, t97, t98, t99, t100, t101, t102, t103, t104, t105, t106, t107, t108, t109, t110, t111, t112, t113, t114, t115, t116, t117, t118, t119, t120, t121, t122, t123, t124, t125, t126, t127, t128, t129, t130, t131, t132, t133, t134, t135, t136, t137, t138, t139, t140, t141, t142, t143, t144, t145, t146, t147, t148, t149, t150, t151, t152, t153, t154, t155, t156, t157, t158, t159, t160, t161, t162, t163, t164, t165, t166, t167, t168, t169, t170, t171, t172, t173, t174, t175, t176, t177, t178, t179, t180, t181, t182, t183, t184, t185, t186, t187, t188, t189, t190, t191, t192, t193, t194, t195, t196, t197, t198, t199, t200, t201], defers := [] } wr
end Go.Proofs.YtfinpehbpcckaaaGreatDoor
