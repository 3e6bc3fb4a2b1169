/- Contract of join: two classes become one. -/
import Derived.Test.YtlobiebmaheflaaTop
import Derived.Deep.RegionLaw
namespace Go.Proofs.Ytlobiebmaheflaa
open Go.RowKit
set_option linter.unusedVariables false

/-- The set's blocks are the old ones and new ones; what stood still stands still. -/
def Grows (w : World) (tag tag' : Nat → Tag) : Prop := ∀ b, b < w.heap.size → (tag b = tOut → tag' b = tOut) ∧ (¬ Mut tag b → ¬ Mut tag' b)
theorem Grows.refl (w : World) (tag : Nat → Tag) : Grows w tag tag := fun _ _ => ⟨id, id⟩
theorem Grows.trans {w w' : World} {tag tag' tag'' : Nat → Tag} (h : Grows w tag tag') (h' : Grows w' tag' tag'') (hs : w.heap.size ≤ w'.heap.size) : Grows w tag tag'' := fun b hb =>
  ⟨fun e => (h' b (by omega)).1 ((h b hb).1 e), fun e => (h' b (by omega)).2 ((h b hb).2 e)⟩
theorem Off.grows {w w' w'' : World} {tag tag' : Nat → Tag} (h : Off (Mut tag) w w') (h' : Off (Mut tag') w' w'') (hg : Grows w tag tag') : Off (Mut tag) w w'' :=
  h.andThen h' fun i hi hm => Classical.byContradiction fun hn => (hg i hi).2 hn hm
def JoinPost (w : World) (tag : Nat → Tag) (hd N T : Nat) (nm : Int → Option Nat) (live : Nat → Prop) (num : Nat → Int) (tm : Nat → List Tie) (up root dep : Nat → Nat) (grp : Nat → List Nat) (tl : Tie → List Nat) (c a b : Nat) (e : Ending) (w' : World) : Prop :=
  e = .returned (.tuple #[]) ∧ ∃ tag' up' root' dep' grp', Mem w' tag' hd N T nm live (fun g => up' g = g) num tm up' grp' tl c ∧ Forest live up' root' dep' grp' ∧ Merged live root root' a b ∧ Off (Mut tag) w w' ∧ Grows w tag tag'

section
variable {tag : Nat → Tag} {hd N T : Nat} {nm : Int → Option Nat} {live ok : Nat → Prop} {num : Nat → Int} {tm : Nat → List Tie} {up root dep : Nat → Nat} {grp : Nat → List Nat} {tl : Tie → List Nat} {c : Nat}
theorem ptr_info : (Try.prog.info? 59).map (fun i => (i.zero, i.size, i.bytes)) = some (some (.pointer none), 1, 8) := by kernel_rfl

/-- The row of a root's group. -/
theorem grp_row {w : World} (hM : Mem w tag hd N T nm live ok num tm up grp tl c) (hF : Forest live up root dep grp) {p : Nat} (hp : live p) (hpp : up p = p) (hok : ok p) : ∃ g n cap, w.cell? ⟨p, 3, none⟩ = some (.slice (some ⟨g, 0, none⟩) n cap) ∧ (∀ j, w.frozen? ⟨p, j, none⟩ = false) ∧
    n = (grp p).length ∧ 0 < n ∧ w.ownsRow 0 59 1 (.slice (some ⟨g, 0, none⟩) n cap) n ((grp p).map ptr) ∧ tag g = tGrp p ∧ g < w.heap.size ∧ w.cell? ⟨p, 2, none⟩ = some (.pointer (some ⟨p, 0, none⟩)) := by
  obtain ⟨tv, gv, -, -, c2, c3, fr, -, hr⟩ := hM.cells hp
  rw [hpp] at c2
  have hr := hr hok
  have hmem : p ∈ grp p := (hF.grpM p hp hpp p).2 ⟨hp, hF.fix p hp hpp⟩
  have hpos : 0 < (grp p).length := List.length_pos_of_mem hmem
  rcases hr.1.2 with ⟨_, h0⟩ | ⟨g, cap, cur, rfl, hb, hg, h1, h2, h3⟩
  · omega
  · exact ⟨g, _, cap, c3, fr, rfl, hpos, hr.1, hr.2 g rfl, heap_lt hg, c2⟩

/-- What is left of a joining: A takes B's members. -/
theorem join_end {w W w3 : World} {A B gA nA g cap' : Nat} (hM : Mem W tag hd N T nm live ok num tm up grp tl c) (hF : Forest live up root dep grp) (hA : live A) (hB : live B) (fA : up A = A) (fB : up B = B) (hAB : A ≠ B) (hok : ∀ y, live y → up y = y → ok y)
    (hO : Off (Mut tag) w W) (htA : tag gA = tGrp A) (hg1 : (W.setCell ⟨B, 2, none⟩ (ptr A)).grownBy w3 (some gA)) (hown : w3.ownsRow 0 59 1 (.slice (some ⟨g, 0, none⟩) nA cap') nA ((grp A).map ptr ++ (grp B).map ptr)) (hn : nA = (grp A).length + (grp B).length)
    (hat : gA = g ∨ g = W.heap.size) (hlt : g < w3.heap.size) {a b : Nat} (ha : live a) (hb : live b) (hab : (root a = A ∧ root b = B) ∨ (root a = B ∧ root b = A)) :
    ∃ tag' up' root' dep' grp', Mem ((w3.setCell ⟨A, 3, none⟩ (.slice (some ⟨g, 0, none⟩) nA cap')).setCell ⟨B, 3, none⟩ (.slice none 0 0)) tag' hd N T nm live (fun g => up' g = g) num tm up' grp' tl c ∧ Forest live up' root' dep' grp' ∧ Merged live root root' a b ∧
      Off (Mut tag) w ((w3.setCell ⟨A, 3, none⟩ (.slice (some ⟨g, 0, none⟩) nA cap')).setCell ⟨B, 3, none⟩ (.slice none 0 0)) ∧ Grows w tag tag' := by
  have h1 := hM.setUp hB A
  have hsz : (W.setCell ⟨B, 2, none⟩ (ptr A)).heap.size = W.heap.size := by simp [World.setCell]
  have h2 := h1.pass (w' := w3) (tag' := tag) (ok' := fun g => ok g ∧ g ≠ A) (fun g _ h => h.1) (fun b hb => hM.fresh b (by have := hg1.size; omega)) (fun b hb hlt => by
    by_cases e : b = gA
    · subst e; exact .inl ⟨A, htA, fun h => h.2 rfl⟩
    · exact .inr ⟨hg1.block b hlt (fun e2 => e (by injection e2)), rfl⟩)
  have htg : tag g = tGrp A ∨ tag g = tOut := by
    rcases hat with rfl | rfl
    · exact .inl htA
    · exact .inr (hM.fresh _ (Nat.le_refl _))
  have h3 := h2.retag (x := A) (b := g) (fun h => h.2 rfl) htg hlt
  have h4 := h3.setGrp (x := A) hA (v := .slice (some ⟨g, 0, none⟩) nA cap') (l := grp A ++ grp B) ⟨by rw [List.length_append, ← hn, List.map_append]; exact hown, fun b e => by simp [Value.ownBlock] at e; subst e; exact upd_same _ _ _⟩
  have h5 := h4.loseGrp (x := B) hB (.slice none 0 0)
  refine ⟨_, _, _, _, _, h5.less fun y hy e => ?_, hF.join hA hB fA fB hAB (upd grp A (grp A ++ grp B)) (upd_same _ _ _) (fun x hx _ => upd_other _ _ hx), fun x y hx hy => ?_, ?_, fun b hb => ?_⟩
  · have hyB : y ≠ B := fun e2 => by subst e2; rw [upd_same] at e; exact hAB e
    rw [upd_other _ _ hyB] at e
    refine ⟨?_, hyB⟩
    by_cases e3 : y = A
    · exact .inr e3
    · exact .inl ⟨hok y hy e, e3⟩
  · rw [Forest.join_root hAB]
    show (root x = root y ∨ root x = A ∧ root y = B ∨ root x = B ∧ root y = A) ↔ (root x = root y ∨ (root x = root a ∧ root b = root y) ∨ (root x = root b ∧ root a = root y))
    rcases hab with ⟨e1, e2⟩ | ⟨e1, e2⟩
    · rw [e1, e2]
      exact or_congr Iff.rfl (or_congr (and_congr Iff.rfl eq_comm) (and_congr Iff.rfl eq_comm))
    · rw [e1, e2]
      exact or_congr Iff.rfl ((or_comm).trans (or_congr (and_congr Iff.rfl eq_comm) (and_congr Iff.rfl eq_comm)))
  · have ofA : Mut tag A := by show tag A ≠ tOut ∧ (tag A).kind ≠ 7; rw [(hM.node_tag hA).1]; simp [tNode, tOut]
    have ofB : Mut tag B := by show tag B ≠ tOut ∧ (tag B).kind ≠ 7; rw [(hM.node_tag hB).1]; simp [tNode, tOut]
    have ofg : Mut tag gA := by show tag gA ≠ tOut ∧ (tag gA).kind ≠ 7; rw [htA]; simp [tGrp, tOut]
    exact (((hO.setCell (.inl ofB) _).grown hg1 (fun k e => by injection e with e; subst e; exact .inl ofg)).setCell (.inl ofA) _).setCell (.inl ofB) _
  · by_cases e : b = g
    · subst e
      rcases hat with e | e
      · rw [← e]
        exact ⟨fun ht => by rw [htA] at ht; simp [tGrp, tOut] at ht, fun hn => absurd ⟨by rw [htA]; simp [tGrp, tOut], by rw [htA]; simp [tGrp]⟩ hn⟩
      · have := hO.size; omega
    · unfold Mut
      rw [upd_other _ _ e]; exact ⟨id, id⟩

set_option maxRecDepth 100000 in
set_option maxHeartbeats 1000000 in
theorem join_any (a b : Nat) (w : World) (hM : Mem w tag hd N T nm live ok num tm up grp tl c) (hF : Forest live up root dep grp) (ha : live a) (hb : live b) (hok : ∀ y, live y → up y = y → ok y) (hlen : ∀ y, live y → up y = y → (grp y).length ≤ 1000000) :
    Calls Try.prog 40 #[.pointer (some ⟨a, 0, none⟩), .pointer (some ⟨b, 0, none⟩)] w (JoinPost w tag hd N T nm live num tm up root dep grp tl c a b) := by
  have HM := Lib.hid hM
  have HF := Lib.hid hF
  have HA := Lib.hid ha
  have HB := Lib.hid hb
  have HOK := Lib.hid hok
  have HLEN := Lib.hid hlen
  clear hM hF ha hb hok hlen
  go_enter Try.func40, Try.ntmps40
  go_wp2_with fail
  refine (top_any a w HM.out HF.out HA.out).mono ?_
  rintro e w1 ⟨rfl, up1, hM1, hF1, hi1, hO1⟩
  have HM1 := Lib.hid hM1
  have HF1 := Lib.hid hF1
  have HI1 := Lib.hid hi1
  have HO1 := Lib.hid hO1
  clear hM1 hF1 hi1 hO1
  go_wp2_with fail
  refine (top_any b w1 HM1.out HF1.out HB.out).mono ?_
  rintro e w2 ⟨rfl, up2, hM2, hF2, hi2, hO2⟩
  have HM2 := Lib.hid hM2
  have HF2 := Lib.hid hF2
  have HI2 := Lib.hid (show ∀ y, live y → (up2 y = y ↔ up y = y) from fun y hy => (hi2 y hy).trans (HI1.out y hy))
  have HO2 := Lib.hid (HO1.out.trans hO2)
  clear hM2 hF2 hi2 hO2
  obtain ⟨p, hp⟩ : ∃ p, root a = p := ⟨_, rfl⟩
  obtain ⟨q, hq⟩ : ∃ q, root b = q := ⟨_, rfl⟩
  have HP := Lib.hid hp
  have HQ := Lib.hid hq
  rw [hp, hq]
  clear hp hq
  by_cases hpq : p = q
  · subst hpq
    have heq := (ptr_same w2 p).2
    go_wp2
    go_end0
    refine ⟨rfl, tag, up2, root, dep, grp, HM2.out.less fun y hy e => HOK.out y hy ((HI2.out y hy).1 e), HF2.out, fun x y hx hy => ?_, HO2.out, Grows.refl _ _⟩
    show root x = root y ↔ (root x = root y ∨ (root x = root a ∧ root b = root y) ∨ (root x = root b ∧ root a = root y))
    rw [HP.out, HQ.out]
    constructor
    · exact .inl
    · rintro (h | ⟨h1, h2⟩ | ⟨h1, h2⟩)
      · exact h
      · exact h1.trans h2
      · exact h1.trans h2
  · have hpl : live p := by rw [← HP.out]; exact HF.out.rootL a HA.out
    have hql : live q := by rw [← HQ.out]; exact HF.out.rootL b HB.out
    have hpp : up2 p = p := by rw [← HP.out]; exact HF2.out.rootF a HA.out
    have hqq : up2 q = q := by rw [← HQ.out]; exact HF2.out.rootF b HB.out
    have heq := (HM2.out.neq hpl hql hpq).2
    obtain ⟨gp, np, cp, c3p, frp, hnp, hp0, hop, htp, hgp, c2p⟩ := grp_row HM2.out HF2.out hpl hpp (HOK.out p hpl ((HI2.out p hpl).1 hpp))
    obtain ⟨gq, nq', cq, c3q, frq, hnq, hq0, hoq, htq, hgq, c2q⟩ := grp_row HM2.out HF2.out hql hqq (HOK.out q hql ((HI2.out q hql).1 hqq))
    have hbp : np ≤ 1000000 := by rw [hnp]; exact HLEN.out p hpl ((HI2.out p hpl).1 hpp)
    have hbq : nq' ≤ 1000000 := by rw [hnq]; exact HLEN.out q hql ((HI2.out q hql).1 hqq)
    have HPQ := Lib.hid hpq
    have HPL := Lib.hid hpl
    have HQL := Lib.hid hql
    have HPP := Lib.hid hpp
    have HQQ := Lib.hid hqq
    have HNP := Lib.hid hnp
    have HNQ := Lib.hid hnq
    have HOP := Lib.hid hop
    have HOQ := Lib.hid hoq
    have HTP := Lib.hid htp
    have HTQ := Lib.hid htq
    have f3p := frp 3
    have f2p := frp 2
    have f3q := frq 3
    have f2q := frq 2
    clear hpl hql hpp hqq hnp hnq hop hoq htp htq frp frq
    by_cases hlt : np < nq'
    · have hd : decide (np < nq') = true := by simpa using hlt
      have hqp : q ≠ p := fun e => hpq e.symm
      have hq0' : 0 < np := hp0
      clear hlt
      go_wp2
      go_quiet (fail)
      go_wp2
      clear hd
      have k3A : ((w2.drewN nq).setCell ⟨p, 2, none⟩ (.pointer (some ⟨q, 0, none⟩))).cell? ⟨q, 3, none⟩ = some (.slice (some ⟨gq, 0, none⟩) nq' cq) := by rw [World.cell?_setCell_other _ _ _ _ (by simp)]; exact c3q
      have k3B : ((w2.drewN nq).setCell ⟨p, 2, none⟩ (.pointer (some ⟨q, 0, none⟩))).cell? ⟨p, 3, none⟩ = some (.slice (some ⟨gp, 0, none⟩) np cp) := by rw [World.cell?_setCell_other _ _ _ _ (by simp)]; exact c3p
      have q3A : ((w2.drewN nq).setCell ⟨p, 2, none⟩ (.pointer (some ⟨q, 0, none⟩))).frozen? ⟨q, 3, none⟩ = false := by rw [World.frozen?_setCell]; exact f3q
      have q3B : ((w2.drewN nq).setCell ⟨p, 2, none⟩ (.pointer (some ⟨q, 0, none⟩))).frozen? ⟨p, 3, none⟩ = false := by rw [World.frozen?_setCell]; exact f3p
      obtain ⟨W, hW⟩ : ∃ W, W = (w2.drewN nq).setCell ⟨p, 2, none⟩ (.pointer (some ⟨q, 0, none⟩)) := ⟨_, rfl⟩
      have hs : W.heap.size = w2.heap.size := by rw [hW]; simp [World.setCell]
      rw [← hW] at k3A k3B q3A q3B ⊢
      have HW := Lib.hid hW
      clear hW
      obtain ⟨i0, hi, hz0, hz1, hz2⟩ := info_parts ptr_info
      have tA := (HM2.out.node_tag HQL.out).1
      have tB := (HM2.out.node_tag HPL.out).1
      have hneA : q ≠ gq := fun e => by rw [e, HTQ.out] at tA; simp [tGrp, tNode] at tA
      have hneB : p ≠ gq := fun e => by rw [e, HTQ.out] at tB; simp [tGrp, tNode] at tB
      have hneC : p ≠ gp := fun e => by rw [e, HTP.out] at tB; simp [tGrp, tNode] at tB
      have H1 := Lib.hid (show W.ownsRow 0 59 1 (.slice (some ⟨gq, 0, none⟩) nq' cq) nq' ((grp q).map ptr) by
        rw [HW.out]; exact ownsRow_block HOQ.out fun b e => heap_setCell_other _ _ _ _ fun e2 => by simp [Value.ownBlock] at e; simp at e2; exact hneB (e2.symm.trans e.symm))
      have H2 := Lib.hid (show ∀ j u, ((grp p).map ptr)[j]? = some u → W.cell? ((⟨gp, 0, none⟩ : Addr).add j) = some u by
        rw [HW.out]
        exact (ownsRow_block HOP.out fun b e => heap_setCell_other _ _ _ _ fun e2 => by simp [Value.ownBlock] at e; simp at e2; exact hneC (e2.symm.trans e.symm)).cells rfl)
      have H3 := Lib.hid (show ((grp p).map ptr).length = np * 1 by rw [HNP.out]; simp)
      have hlA : q < W.heap.size := by rw [hs]; exact (HM2.out.node_tag HQL.out).2
      have hlB : p < W.heap.size := by rw [hs]; exact (HM2.out.node_tag HPL.out).2
      have HS := Lib.hid hs
      have HNA := Lib.hid hneA
      have HNB := Lib.hid hneB
      clear hs tA tB hneA hneB hneC c3p c3q c2p c2q f3p f3q f2p f2q heq
      go_region_law ((refine step_append_lies _ (by rfl) _ _ _ (by rfl) 0 59 i0 (.pointer none) 1 8 Try.underlying62 hi hz0 hz1 hz2 rfl (by omega) (.slice (some ⟨gq, 0, none⟩) nq' cq) nq' _ (by rfl) (by exact H1.out) ⟨gp, 0, none⟩ np cp _ (by rfl) H3.out (by exact H2.out) (by intro u hu; obtain ⟨x, -, rfl⟩ := List.mem_map.1 hu; rfl) hq0' (by simp only [maxLen]; omega) (by omega) (Nat.zero_le _) W.heap.size rfl ?_; intro g cap w3 hown3 hgrow hat hlt3; have e3A := (hgrow.cell_far ⟨q, 3, none⟩ hlA (fun e => HNA.out (by injection e))).trans k3A; have e3B := (hgrow.cell_far ⟨p, 3, none⟩ hlB (fun e => HNB.out (by injection e))).trans k3B; have p3A := (hgrow.frozen_far ⟨q, 3, none⟩ hlA (fun e => HNA.out (by injection e))).trans q3A; have p3B := (hgrow.frozen_far ⟨p, 3, none⟩ hlB (fun e => HNB.out (by injection e))).trans q3B; have G1 := Lib.hid hown3; have G2 := Lib.hid hgrow; have G3 := Lib.hid hat; have G4 := Lib.hid hlt3; clear hown3 hgrow hat hlt3))
      all_goals
        go_wp2
        go_end0
        refine ⟨rfl, join_end (W := w2.drewN nq) (A := q) (B := p) (HM2.out.off ((Off.refl (fun _ => False) _).drewN nq) (fun _ h => h.elim)) HF2.out HQL.out HPL.out HQQ.out HPP.out hqp (fun y hy e => HOK.out y hy ((HI2.out y hy).1 e)) (HO2.out.drewN nq) HTQ.out (by have h1 := G2.out; rw [HW.out] at h1; exact ⟨h1.os, h1.tape, h1.output, h1.size, h1.block⟩) G1.out (by rw [HNQ.out, HNP.out]) (by
          rcases G3.out with h1 | h1
          · exact .inl (by simpa [Value.ownBlock] using h1)
          · exact .inr (h1.trans HS.out)) G4.out HA.out HB.out (.inr ⟨HP.out, HQ.out⟩)⟩
    · have hd : decide (np < nq') = false := by simpa using hlt
      have hq0' : 0 < nq' := hq0
      clear hlt
      go_wp2
      go_quiet (fail)
      go_wp2
      clear hd
      have k3A : ((w2.drewN nq).setCell ⟨q, 2, none⟩ (.pointer (some ⟨p, 0, none⟩))).cell? ⟨p, 3, none⟩ = some (.slice (some ⟨gp, 0, none⟩) np cp) := by rw [World.cell?_setCell_other _ _ _ _ (by simp)]; exact c3p
      have k3B : ((w2.drewN nq).setCell ⟨q, 2, none⟩ (.pointer (some ⟨p, 0, none⟩))).cell? ⟨q, 3, none⟩ = some (.slice (some ⟨gq, 0, none⟩) nq' cq) := by rw [World.cell?_setCell_other _ _ _ _ (by simp)]; exact c3q
      have q3A : ((w2.drewN nq).setCell ⟨q, 2, none⟩ (.pointer (some ⟨p, 0, none⟩))).frozen? ⟨p, 3, none⟩ = false := by rw [World.frozen?_setCell]; exact f3p
      have q3B : ((w2.drewN nq).setCell ⟨q, 2, none⟩ (.pointer (some ⟨p, 0, none⟩))).frozen? ⟨q, 3, none⟩ = false := by rw [World.frozen?_setCell]; exact f3q
      obtain ⟨W, hW⟩ : ∃ W, W = (w2.drewN nq).setCell ⟨q, 2, none⟩ (.pointer (some ⟨p, 0, none⟩)) := ⟨_, rfl⟩
      have hs : W.heap.size = w2.heap.size := by rw [hW]; simp [World.setCell]
      rw [← hW] at k3A k3B q3A q3B ⊢
      have HW := Lib.hid hW
      clear hW
      obtain ⟨i0, hi, hz0, hz1, hz2⟩ := info_parts ptr_info
      have tA := (HM2.out.node_tag HPL.out).1
      have tB := (HM2.out.node_tag HQL.out).1
      have hneA : p ≠ gp := fun e => by rw [e, HTP.out] at tA; simp [tGrp, tNode] at tA
      have hneB : q ≠ gp := fun e => by rw [e, HTP.out] at tB; simp [tGrp, tNode] at tB
      have hneC : q ≠ gq := fun e => by rw [e, HTQ.out] at tB; simp [tGrp, tNode] at tB
      have H1 := Lib.hid (show W.ownsRow 0 59 1 (.slice (some ⟨gp, 0, none⟩) np cp) np ((grp p).map ptr) by
        rw [HW.out]; exact ownsRow_block HOP.out fun b e => heap_setCell_other _ _ _ _ fun e2 => by simp [Value.ownBlock] at e; simp at e2; exact hneB (e2.symm.trans e.symm))
      have H2 := Lib.hid (show ∀ j u, ((grp q).map ptr)[j]? = some u → W.cell? ((⟨gq, 0, none⟩ : Addr).add j) = some u by
        rw [HW.out]
        exact (ownsRow_block HOQ.out fun b e => heap_setCell_other _ _ _ _ fun e2 => by simp [Value.ownBlock] at e; simp at e2; exact hneC (e2.symm.trans e.symm)).cells rfl)
      have H3 := Lib.hid (show ((grp q).map ptr).length = nq' * 1 by rw [HNQ.out]; simp)
      have hlA : p < W.heap.size := by rw [hs]; exact (HM2.out.node_tag HPL.out).2
      have hlB : q < W.heap.size := by rw [hs]; exact (HM2.out.node_tag HQL.out).2
      have HS := Lib.hid hs
      have HNA := Lib.hid hneA
      have HNB := Lib.hid hneB
      clear hs tA tB hneA hneB hneC c3p c3q c2p c2q f3p f3q f2p f2q heq
      go_region_law ((refine step_append_lies _ (by rfl) _ _ _ (by rfl) 0 59 i0 (.pointer none) 1 8 Try.underlying62 hi hz0 hz1 hz2 rfl (by omega) (.slice (some ⟨gp, 0, none⟩) np cp) np _ (by rfl) (by exact H1.out) ⟨gq, 0, none⟩ nq' cq _ (by rfl) H3.out (by exact H2.out) (by intro u hu; obtain ⟨x, -, rfl⟩ := List.mem_map.1 hu; rfl) hq0' (by simp only [maxLen]; omega) (by omega) (Nat.zero_le _) W.heap.size rfl ?_; intro g cap w3 hown3 hgrow hat hlt3; have e3A := (hgrow.cell_far ⟨p, 3, none⟩ hlA (fun e => HNA.out (by injection e))).trans k3A; have e3B := (hgrow.cell_far ⟨q, 3, none⟩ hlB (fun e => HNB.out (by injection e))).trans k3B; have p3A := (hgrow.frozen_far ⟨p, 3, none⟩ hlA (fun e => HNA.out (by injection e))).trans q3A; have p3B := (hgrow.frozen_far ⟨q, 3, none⟩ hlB (fun e => HNB.out (by injection e))).trans q3B; have G1 := Lib.hid hown3; have G2 := Lib.hid hgrow; have G3 := Lib.hid hat; have G4 := Lib.hid hlt3; clear hown3 hgrow hat hlt3))
      all_goals
        go_wp2
        go_end0
        refine ⟨rfl, join_end (W := w2.drewN nq) (A := p) (B := q) (HM2.out.off ((Off.refl (fun _ => False) _).drewN nq) (fun _ h => h.elim)) HF2.out HPL.out HQL.out HPP.out HQQ.out hpq (fun y hy e => HOK.out y hy ((HI2.out y hy).1 e)) (HO2.out.drewN nq) HTP.out (by have h1 := G2.out; rw [HW.out] at h1; exact ⟨h1.os, h1.tape, h1.output, h1.size, h1.block⟩) G1.out (by rw [HNP.out, HNQ.out]) (by
          rcases G3.out with h1 | h1
          · exact .inl (by simpa [Value.ownBlock] using h1)
          · exact .inr (h1.trans HS.out)) G4.out HA.out HB.out (.inl ⟨HP.out, HQ.out⟩)⟩
end
end Go.Proofs.Ytlobiebmaheflaa
