/- Layer 37: leaf at the queries that the laws' small() writes (printed by gen_qleaf.py). Layer 37: Words at a word, a negation, a parent (printed by gen_qwords.py). Layer 37: write, Write and Right: at a leaf and at a parent. Layer 37: peek: its plain side and the words for its memory. -/
import Derived.Test.YtomcdhmcjndioaaGreatDoorM09
import Derived.Test.YtomcdhmcjndioaaGreatDoorM08
section
namespace Go.Proofs.YtomcdhmcjndioaaGreatDoor
open Go.RowKit
set_option linter.unusedVariables false

set_option maxRecDepth 100000 in
set_option maxHeartbeats 4000000 in
theorem worded_no (op fld : Int) (t : List UInt8) (A0 : Option Addr) (m0 c0 : Nat) (m : Nat) (least most : Int) (hm : (listP t).length = m) (h1 : least ≤ m) (h2 : ¬ (m : Int) ≤ most) (ht : t.length ≤ 1000) (w : World) (hT : QTabs w) :
    Calls Tryz.prog 57 #[.agg #[.int .i64 op, .int .i64 fld, .string (ba t), .int .i64 0, .slice A0 m0 c0], .int .i64 least, .int .i64 most] w (WdPost w false) := by
  have hb0 : Below w.heap.size w (w.alloc (.cells #[.int .i64 op, .int .i64 fld, .string (ba t), .int .i64 0, .slice A0 m0 c0] 25)) := (Below.refl _ _).alloc (Nat.le_refl _) _
  have hlist := list_any t _ (hT.below hb0).fs (hT.below hb0).ks (by omega)
  have HK := Lib.hid (wbox_new w ⟨op, fld, t, 0, (A0, m0, c0)⟩)
  have HB0 := Lib.hid hb0
  have HL := Lib.hid hlist
  have HM := Lib.hid hm
  have g1 : decide (least ≤ (m : Int)) = true := decide_eq_true h1
  have g2 : decide ((m : Int) ≤ most) = false := decide_eq_false h2
  clear hb0 hlist hT hm
  go_enter Tryz.func57, Tryz.ntmps57
  go_wp2_with fail
  refine HL.out.mono ?_
  rintro e w1 ⟨v, rfl, hv, hb⟩
  have HB1 := Lib.hid (HB0.out.trans (hb.mono HB0.out.size))
  obtain ⟨A, c, hvv, hc1, hc2, hst⟩ := hv.strs
  rw [HM.out] at hvv
  subst hvv
  have hk1 : WBox w1 w.heap.size ⟨op, fld, t, 0, (A0, m0, c0)⟩ := (hb.block _ (by simp)).trans HK.out
  obtain ⟨x0, x1, x2, x3, x4, xl⟩ := hk1.cells
  have y3 := cell_regrown x3
  clear hb hv hst hc1 hc2 hk1 x0 x1 x2 x3 x4
  go_wp2
  refine wp_region_quiet_below (by kernel_rfl) (by kernel_rfl) ?_
  repeat (quiet_step (fail))
  refine wpQuiet_nil ?_
  intro _ hw'
  obtain ⟨⟨dq, osq⟩, hw''⟩ := hw'
  subst hw''
  go_wp2
  go_ret
  exact ⟨rfl, HB1.out.trans ((below_regrown w1 dq osq).mono HB1.out.size)⟩
/-- What is claimed of leaf at the query q. -/
def LeafC (q : Qry) (o : Option (List UInt8)) : Prop := ∀ (w : World) (r : RawQ), QDeep w (fun _ => True) r q → QTabs w → PowTab w → Calls Tryz.prog 39 #[r.val] w (WrPost w o)
theorem leaf_open {w : World} {P : Nat → Prop} {r : RawQ} {op fld n : Int} {t : List UInt8} (h : QDeep w P r (.mk op fld t n [])) : ∃ A c, r = ⟨op, fld, t, n, (A, 0, c)⟩ := by
  obtain ⟨o, f, t', n', A, m, c⟩ := r
  obtain ⟨kids, raws, e, hk, _, _⟩ := h.open_
  injection e with e1 e2 e3 e4 e5
  subst e1 e2 e3 e4 e5
  have := hk.size
  simp at this
  subst this
  exact ⟨A, c, rfl⟩
set_option maxRecDepth 100000 in
set_option maxHeartbeats 4000000 in
theorem leaf_L1 : LeafC (.mk 2 1 [97, 110, 110] 0 []) (some [102, 114, 111, 109, 58, 97, 110, 110]) := by
  intro w r hr hT hP
  obtain ⟨A, c, rfl⟩ := leaf_open hr
  unfold RawQ.val
  dsimp only
  have hb0 : Below w.heap.size w (w.alloc (.cells #[.int .i64 2, .int .i64 1, .string ⟨#[97, 110, 110]⟩, .int .i64 0, .slice A 0 c] 25)) := (Below.refl _ _).alloc (Nat.le_refl _) _
  have HB0 := Lib.hid hb0
  have HK := Lib.hid (wbox_new w ⟨2, 1, [97, 110, 110], 0, (A, 0, c)⟩)
  have HTB := Lib.hid (hT.below hb0)
  have HPT := Lib.hid (hP.below hb0)
  have hf0 : w.cell? ⟨0, 1, none⟩ = some (.string ⟨#[102, 114, 111, 109]⟩) := hT.fld 1 (by decide)
  have hlt0 := hT.lt.2.2
  show Calls _ _ #[.agg #[.int .i64 2, .int .i64 1, .string ⟨#[97, 110, 110]⟩, .int .i64 0, .slice A 0 c]] _ _
  obtain ⟨W0, hW0⟩ : ∃ W0, w.alloc (.cells #[.int .i64 2, .int .i64 1, .string ⟨#[97, 110, 110]⟩, .int .i64 0, .slice A 0 c] 25) = W0 := ⟨_, rfl⟩
  have HW0 := Lib.hid hW0
  have hk : WBox W0 w.heap.size ⟨2, 1, [97, 110, 110], 0, (A, 0, c)⟩ := by rw [← hW0]; exact HK.out
  rw [hW0] at HB0 HTB HPT
  obtain ⟨x0, x1, x2, x3, x4, xl⟩ := hk.cells
  have x2 : W0.cell? ⟨w.heap.size, 2, none⟩ = some (.string ⟨#[97, 110, 110]⟩) := x2
  have y0 := cell_regrown x0
  have y1 := cell_regrown x1
  have y2 := cell_regrown x2
  have y3 := cell_regrown x3
  have y4 := cell_regrown x4
  have hwd : ∀ d os, Calls Tryz.prog 57 #[.agg #[.int .i64 2, .int .i64 1, .string ⟨#[97, 110, 110]⟩, .int .i64 0, .slice A 0 c], .int .i64 1, .int .i64 1] (Sort.grow (redrawn W0 d) os) fun e w'' => e = .returned (.bool true) ∧ ∃ p : Regrown, w'' = Sort.grow (redrawn W0 p.d) p.os := fun d os => Calls.regrown_of (worded_yes 2 1 [97, 110, 110] A 0 c 1 1 1 (by kernel_rfl) (by decide) (by decide) (by kernel_rfl) (by decide) _ (HTB.out.below (below_regrown W0 d os)))
  clear hT hP hr hb0 hk HK hW0
  go_enter Tryz.func39, Tryz.ntmps39
  go_wp2_with fail
  rw [HW0.out]
  go_wp2_with fail
  refine wp_region_quiet_below (by kernel_rfl) (by kernel_rfl) ?_
  repeat (quiet_step (exact hwd _ _))
  refine wpQuiet_nil ?_
  intro _ hw'
  obtain ⟨⟨dq, osq⟩, hw''⟩ := hw'
  subst hw''
  go_wp2
  go_ret2
  exact ⟨[102, 114, 111, 109, 58, 97, 110, 110], rfl, (fun x h => (Option.some.inj h).symm), HB0.out.trans ((below_regrown W0 dq osq).mono HB0.out.size)⟩
set_option maxRecDepth 100000 in
set_option maxHeartbeats 4000000 in
theorem leaf_L2 : LeafC (.mk 2 0 [120] 0 []) (some [120]) := by
  intro w r hr hT hP
  obtain ⟨A, c, rfl⟩ := leaf_open hr
  unfold RawQ.val
  dsimp only
  have hb0 : Below w.heap.size w (w.alloc (.cells #[.int .i64 2, .int .i64 0, .string ⟨#[120]⟩, .int .i64 0, .slice A 0 c] 25)) := (Below.refl _ _).alloc (Nat.le_refl _) _
  have HB0 := Lib.hid hb0
  have HK := Lib.hid (wbox_new w ⟨2, 0, [120], 0, (A, 0, c)⟩)
  have HTB := Lib.hid (hT.below hb0)
  have HPT := Lib.hid (hP.below hb0)
  have hf0 : w.cell? ⟨0, 0, none⟩ = some (.string ⟨#[]⟩) := hT.fld 0 (by decide)
  have hlt0 := hT.lt.2.2
  show Calls _ _ #[.agg #[.int .i64 2, .int .i64 0, .string ⟨#[120]⟩, .int .i64 0, .slice A 0 c]] _ _
  obtain ⟨W0, hW0⟩ : ∃ W0, w.alloc (.cells #[.int .i64 2, .int .i64 0, .string ⟨#[120]⟩, .int .i64 0, .slice A 0 c] 25) = W0 := ⟨_, rfl⟩
  have HW0 := Lib.hid hW0
  have hk : WBox W0 w.heap.size ⟨2, 0, [120], 0, (A, 0, c)⟩ := by rw [← hW0]; exact HK.out
  rw [hW0] at HB0 HTB HPT
  obtain ⟨x0, x1, x2, x3, x4, xl⟩ := hk.cells
  have x2 : W0.cell? ⟨w.heap.size, 2, none⟩ = some (.string ⟨#[120]⟩) := x2
  have y0 := cell_regrown x0
  have y1 := cell_regrown x1
  have y2 := cell_regrown x2
  have y3 := cell_regrown x3
  have y4 := cell_regrown x4
  have hwd : ∀ d os, Calls Tryz.prog 57 #[.agg #[.int .i64 2, .int .i64 0, .string ⟨#[120]⟩, .int .i64 0, .slice A 0 c], .int .i64 1, .int .i64 1] (Sort.grow (redrawn W0 d) os) fun e w'' => e = .returned (.bool true) ∧ ∃ p : Regrown, w'' = Sort.grow (redrawn W0 p.d) p.os := fun d os => Calls.regrown_of (worded_yes 2 0 [120] A 0 c 1 1 1 (by kernel_rfl) (by decide) (by decide) (by kernel_rfl) (by decide) _ (HTB.out.below (below_regrown W0 d os)))
  clear hT hP hr hb0 hk HK hW0
  go_enter Tryz.func39, Tryz.ntmps39
  go_wp2_with fail
  rw [HW0.out]
  go_wp2_with fail
  refine wp_region_quiet_below (by kernel_rfl) (by kernel_rfl) ?_
  repeat (quiet_step (exact hwd _ _))
  refine wpQuiet_nil ?_
  intro _ hw'
  obtain ⟨⟨dq, osq⟩, hw''⟩ := hw'
  subst hw''
  go_wp2
  go_ret2
  exact ⟨[120], rfl, (fun x h => (Option.some.inj h).symm), HB0.out.trans ((below_regrown W0 dq osq).mono HB0.out.size)⟩
set_option maxRecDepth 100000 in
set_option maxHeartbeats 4000000 in
theorem leaf_L3 : LeafC (.mk 3 0 [121, 32, 122] 0 []) (some [34, 121, 32, 122, 34]) := by
  intro w r hr hT hP
  obtain ⟨A, c, rfl⟩ := leaf_open hr
  unfold RawQ.val
  dsimp only
  have hb0 : Below w.heap.size w (w.alloc (.cells #[.int .i64 3, .int .i64 0, .string ⟨#[121, 32, 122]⟩, .int .i64 0, .slice A 0 c] 25)) := (Below.refl _ _).alloc (Nat.le_refl _) _
  have HB0 := Lib.hid hb0
  have HK := Lib.hid (wbox_new w ⟨3, 0, [121, 32, 122], 0, (A, 0, c)⟩)
  have HTB := Lib.hid (hT.below hb0)
  have HPT := Lib.hid (hP.below hb0)
  have hf0 : w.cell? ⟨0, 0, none⟩ = some (.string ⟨#[]⟩) := hT.fld 0 (by decide)
  have hlt0 := hT.lt.2.2
  show Calls _ _ #[.agg #[.int .i64 3, .int .i64 0, .string ⟨#[121, 32, 122]⟩, .int .i64 0, .slice A 0 c]] _ _
  obtain ⟨W0, hW0⟩ : ∃ W0, w.alloc (.cells #[.int .i64 3, .int .i64 0, .string ⟨#[121, 32, 122]⟩, .int .i64 0, .slice A 0 c] 25) = W0 := ⟨_, rfl⟩
  have HW0 := Lib.hid hW0
  have hk : WBox W0 w.heap.size ⟨3, 0, [121, 32, 122], 0, (A, 0, c)⟩ := by rw [← hW0]; exact HK.out
  rw [hW0] at HB0 HTB HPT
  obtain ⟨x0, x1, x2, x3, x4, xl⟩ := hk.cells
  have x2 : W0.cell? ⟨w.heap.size, 2, none⟩ = some (.string ⟨#[121, 32, 122]⟩) := x2
  have y0 := cell_regrown x0
  have y1 := cell_regrown x1
  have y2 := cell_regrown x2
  have y3 := cell_regrown x3
  have y4 := cell_regrown x4
  have hwd : ∀ d os, Calls Tryz.prog 57 #[.agg #[.int .i64 3, .int .i64 0, .string ⟨#[121, 32, 122]⟩, .int .i64 0, .slice A 0 c], .int .i64 2, .int .i64 9223372036854775807] (Sort.grow (redrawn W0 d) os) fun e w'' => e = .returned (.bool true) ∧ ∃ p : Regrown, w'' = Sort.grow (redrawn W0 p.d) p.os := fun d os => Calls.regrown_of (worded_yes 3 0 [121, 32, 122] A 0 c 2 2 9223372036854775807 (by kernel_rfl) (by decide) (by decide) (by kernel_rfl) (by decide) _ (HTB.out.below (below_regrown W0 d os)))
  clear hT hP hr hb0 hk HK hW0
  go_enter Tryz.func39, Tryz.ntmps39
  go_wp2_with fail
  rw [HW0.out]
  go_wp2_with fail
  refine wp_region_quiet_below (by kernel_rfl) (by kernel_rfl) ?_
  repeat (quiet_step (exact hwd _ _))
  refine wpQuiet_nil ?_
  intro _ hw'
  obtain ⟨⟨dq, osq⟩, hw''⟩ := hw'
  subst hw''
  go_wp2
  go_ret2
  exact ⟨[34, 121, 32, 122, 34], rfl, (fun x h => (Option.some.inj h).symm), HB0.out.trans ((below_regrown W0 dq osq).mono HB0.out.size)⟩
set_option maxRecDepth 100000 in
set_option maxHeartbeats 4000000 in
theorem leaf_L4 : LeafC (.mk 9 0 [] 2048 []) (some [108, 97, 114, 103, 101, 114, 58, 50, 75]) := by
  intro w r hr hT hP
  obtain ⟨A, c, rfl⟩ := leaf_open hr
  unfold RawQ.val
  dsimp only
  have hb0 : Below w.heap.size w (w.alloc (.cells #[.int .i64 9, .int .i64 0, .string ⟨#[]⟩, .int .i64 2048, .slice A 0 c] 25)) := (Below.refl _ _).alloc (Nat.le_refl _) _
  have HB0 := Lib.hid hb0
  have HK := Lib.hid (wbox_new w ⟨9, 0, [], 2048, (A, 0, c)⟩)
  have HTB := Lib.hid (hT.below hb0)
  have HPT := Lib.hid (hP.below hb0)
  have hf0 : w.cell? ⟨0, 0, none⟩ = some (.string ⟨#[]⟩) := hT.fld 0 (by decide)
  have hlt0 := hT.lt.2.2
  show Calls _ _ #[.agg #[.int .i64 9, .int .i64 0, .string ⟨#[]⟩, .int .i64 2048, .slice A 0 c]] _ _
  obtain ⟨W0, hW0⟩ : ∃ W0, w.alloc (.cells #[.int .i64 9, .int .i64 0, .string ⟨#[]⟩, .int .i64 2048, .slice A 0 c] 25) = W0 := ⟨_, rfl⟩
  have HW0 := Lib.hid hW0
  have hk : WBox W0 w.heap.size ⟨9, 0, [], 2048, (A, 0, c)⟩ := by rw [← hW0]; exact HK.out
  rw [hW0] at HB0 HTB HPT
  obtain ⟨x0, x1, x2, x3, x4, xl⟩ := hk.cells
  have x2 : W0.cell? ⟨w.heap.size, 2, none⟩ = some (.string ⟨#[]⟩) := x2
  have y0 := cell_regrown x0
  have y1 := cell_regrown x1
  have y2 := cell_regrown x2
  have y3 := cell_regrown x3
  have y4 := cell_regrown x4
  have HKK := Lib.hid hk
  clear hT hP hr hb0 hk HK hW0
  go_enter Tryz.func39, Tryz.ntmps39
  go_wp2_with fail
  rw [HW0.out]
  go_wp2_with fail
  refine (count_2048 W0 HPT.out).mono ?_
  rintro e w2 ⟨rfl, hb2⟩
  have HB2 := Lib.hid hb2
  have hk2 : WBox w2 w.heap.size ⟨9, 0, [], 2048, (A, 0, c)⟩ := (hb2.block _ xl).trans HKK.out
  clear y0 y1 y2 y3 y4 x0 x1 x2 x3 x4 hb2
  obtain ⟨x0, x1, x2, x3, x4, -⟩ := hk2.cells
  clear hk2
  go_wp2_with fail
  refine (sized_2048 w2 (HPT.out.below HB2.out) (HTB.out.below HB2.out)).mono ?_
  rintro e w3 ⟨rfl, hb3⟩
  have HB3 := Lib.hid (HB0.out.trans ((HB2.out.trans (hb3.mono HB2.out.size)).mono HB0.out.size))
  clear hb3
  go_wp2
  go_ret2
  exact ⟨[108, 97, 114, 103, 101, 114, 58, 50, 75], rfl, (fun x h => (Option.some.inj h).symm), HB3.out⟩
set_option maxRecDepth 100000 in
set_option maxHeartbeats 4000000 in
theorem leaf_L5 : LeafC (.mk 5 0 [115, 101, 101, 110] 0 []) (some [105, 115, 58, 115, 101, 101, 110]) := by
  intro w r hr hT hP
  obtain ⟨A, c, rfl⟩ := leaf_open hr
  unfold RawQ.val
  dsimp only
  have hb0 : Below w.heap.size w (w.alloc (.cells #[.int .i64 5, .int .i64 0, .string ⟨#[115, 101, 101, 110]⟩, .int .i64 0, .slice A 0 c] 25)) := (Below.refl _ _).alloc (Nat.le_refl _) _
  have HB0 := Lib.hid hb0
  have HK := Lib.hid (wbox_new w ⟨5, 0, [115, 101, 101, 110], 0, (A, 0, c)⟩)
  have HTB := Lib.hid (hT.below hb0)
  have HPT := Lib.hid (hP.below hb0)
  have hf0 : w.cell? ⟨0, 0, none⟩ = some (.string ⟨#[]⟩) := hT.fld 0 (by decide)
  have hlt0 := hT.lt.2.2
  show Calls _ _ #[.agg #[.int .i64 5, .int .i64 0, .string ⟨#[115, 101, 101, 110]⟩, .int .i64 0, .slice A 0 c]] _ _
  obtain ⟨W0, hW0⟩ : ∃ W0, w.alloc (.cells #[.int .i64 5, .int .i64 0, .string ⟨#[115, 101, 101, 110]⟩, .int .i64 0, .slice A 0 c] 25) = W0 := ⟨_, rfl⟩
  have HW0 := Lib.hid hW0
  have hk : WBox W0 w.heap.size ⟨5, 0, [115, 101, 101, 110], 0, (A, 0, c)⟩ := by rw [← hW0]; exact HK.out
  rw [hW0] at HB0 HTB HPT
  obtain ⟨x0, x1, x2, x3, x4, xl⟩ := hk.cells
  have x2 : W0.cell? ⟨w.heap.size, 2, none⟩ = some (.string ⟨#[115, 101, 101, 110]⟩) := x2
  have y0 := cell_regrown x0
  have y1 := cell_regrown x1
  have y2 := cell_regrown x2
  have y3 := cell_regrown x3
  have y4 := cell_regrown x4
  have hwd : ∀ d os, Calls Tryz.prog 58 #[.string ⟨#[115, 101, 101, 110]⟩] (Sort.grow (redrawn W0 d) os) fun e w'' => e = .returned (.bool true) ∧ ∃ p : Regrown, w'' = Sort.grow (redrawn W0 p.d) p.os := fun d os => Calls.regrown_of (by have h := qflag_any [115, 101, 101, 110] (Sort.grow (redrawn W0 d) os); rw [show flagQ [115, 101, 101, 110] = true by kernel_rfl] at h; exact h)
  clear hT hP hr hb0 hk HK hW0
  go_enter Tryz.func39, Tryz.ntmps39
  go_wp2_with fail
  rw [HW0.out]
  go_wp2_with fail
  refine wp_region_quiet_below (by kernel_rfl) (by kernel_rfl) ?_
  repeat (quiet_step (exact hwd _ _))
  refine wpQuiet_nil ?_
  intro _ hw'
  obtain ⟨⟨dq, osq⟩, hw''⟩ := hw'
  subst hw''
  go_wp2
  go_ret2
  exact ⟨[105, 115, 58, 115, 101, 101, 110], rfl, (fun x h => (Option.some.inj h).symm), HB0.out.trans ((below_regrown W0 dq osq).mono HB0.out.size)⟩
set_option maxRecDepth 100000 in
set_option maxHeartbeats 4000000 in
theorem leaf_L6 : LeafC (.mk 7 0 [] 946771200 []) (some [98, 101, 102, 111, 114, 101, 58, 50, 48, 48, 48, 45, 48, 49, 45, 48, 50]) := by
  intro w r hr hT hP
  obtain ⟨A, c, rfl⟩ := leaf_open hr
  unfold RawQ.val
  dsimp only
  have hb0 : Below w.heap.size w (w.alloc (.cells #[.int .i64 7, .int .i64 0, .string ⟨#[]⟩, .int .i64 946771200, .slice A 0 c] 25)) := (Below.refl _ _).alloc (Nat.le_refl _) _
  have HB0 := Lib.hid hb0
  have HK := Lib.hid (wbox_new w ⟨7, 0, [], 946771200, (A, 0, c)⟩)
  have HTB := Lib.hid (hT.below hb0)
  have HPT := Lib.hid (hP.below hb0)
  have hf0 : w.cell? ⟨0, 0, none⟩ = some (.string ⟨#[]⟩) := hT.fld 0 (by decide)
  have hlt0 := hT.lt.2.2
  show Calls _ _ #[.agg #[.int .i64 7, .int .i64 0, .string ⟨#[]⟩, .int .i64 946771200, .slice A 0 c]] _ _
  obtain ⟨W0, hW0⟩ : ∃ W0, w.alloc (.cells #[.int .i64 7, .int .i64 0, .string ⟨#[]⟩, .int .i64 946771200, .slice A 0 c] 25) = W0 := ⟨_, rfl⟩
  have HW0 := Lib.hid hW0
  have hk : WBox W0 w.heap.size ⟨7, 0, [], 946771200, (A, 0, c)⟩ := by rw [← hW0]; exact HK.out
  rw [hW0] at HB0 HTB HPT
  obtain ⟨x0, x1, x2, x3, x4, xl⟩ := hk.cells
  have x2 : W0.cell? ⟨w.heap.size, 2, none⟩ = some (.string ⟨#[]⟩) := x2
  have y0 := cell_regrown x0
  have y1 := cell_regrown x1
  have y2 := cell_regrown x2
  have y3 := cell_regrown x3
  have y4 := cell_regrown x4
  clear hT hP hr hb0 hk HK hW0
  go_enter Tryz.func39, Tryz.ntmps39
  go_wp2_with fail
  rw [HW0.out]
  go_wp2_with fail
  refine (dated_2000 W0 HPT.out).mono ?_
  rintro e w2 ⟨rfl, hb2⟩
  have HB2 := Lib.hid (HB0.out.trans (hb2.mono HB0.out.size))
  clear hb2
  go_wp2
  go_ret2
  exact ⟨[98, 101, 102, 111, 114, 101, 58, 50, 48, 48, 48, 45, 48, 49, 45, 48, 50], rfl, (fun x h => (Option.some.inj h).symm), HB2.out⟩
set_option maxRecDepth 100000 in
set_option maxHeartbeats 4000000 in
theorem leaf_L7 : LeafC (.mk 3 2 [97, 98, 32, 99] 0 []) (some [116, 111, 58, 34, 97, 98, 32, 99, 34]) := by
  intro w r hr hT hP
  obtain ⟨A, c, rfl⟩ := leaf_open hr
  unfold RawQ.val
  dsimp only
  have hb0 : Below w.heap.size w (w.alloc (.cells #[.int .i64 3, .int .i64 2, .string ⟨#[97, 98, 32, 99]⟩, .int .i64 0, .slice A 0 c] 25)) := (Below.refl _ _).alloc (Nat.le_refl _) _
  have HB0 := Lib.hid hb0
  have HK := Lib.hid (wbox_new w ⟨3, 2, [97, 98, 32, 99], 0, (A, 0, c)⟩)
  have HTB := Lib.hid (hT.below hb0)
  have HPT := Lib.hid (hP.below hb0)
  have hf0 : w.cell? ⟨0, 2, none⟩ = some (.string ⟨#[116, 111]⟩) := hT.fld 2 (by decide)
  have hlt0 := hT.lt.2.2
  show Calls _ _ #[.agg #[.int .i64 3, .int .i64 2, .string ⟨#[97, 98, 32, 99]⟩, .int .i64 0, .slice A 0 c]] _ _
  obtain ⟨W0, hW0⟩ : ∃ W0, w.alloc (.cells #[.int .i64 3, .int .i64 2, .string ⟨#[97, 98, 32, 99]⟩, .int .i64 0, .slice A 0 c] 25) = W0 := ⟨_, rfl⟩
  have HW0 := Lib.hid hW0
  have hk : WBox W0 w.heap.size ⟨3, 2, [97, 98, 32, 99], 0, (A, 0, c)⟩ := by rw [← hW0]; exact HK.out
  rw [hW0] at HB0 HTB HPT
  obtain ⟨x0, x1, x2, x3, x4, xl⟩ := hk.cells
  have x2 : W0.cell? ⟨w.heap.size, 2, none⟩ = some (.string ⟨#[97, 98, 32, 99]⟩) := x2
  have y0 := cell_regrown x0
  have y1 := cell_regrown x1
  have y2 := cell_regrown x2
  have y3 := cell_regrown x3
  have y4 := cell_regrown x4
  have hwd : ∀ d os, Calls Tryz.prog 57 #[.agg #[.int .i64 3, .int .i64 2, .string ⟨#[97, 98, 32, 99]⟩, .int .i64 0, .slice A 0 c], .int .i64 2, .int .i64 9223372036854775807] (Sort.grow (redrawn W0 d) os) fun e w'' => e = .returned (.bool true) ∧ ∃ p : Regrown, w'' = Sort.grow (redrawn W0 p.d) p.os := fun d os => Calls.regrown_of (worded_yes 3 2 [97, 98, 32, 99] A 0 c 2 2 9223372036854775807 (by kernel_rfl) (by decide) (by decide) (by kernel_rfl) (by decide) _ (HTB.out.below (below_regrown W0 d os)))
  clear hT hP hr hb0 hk HK hW0
  go_enter Tryz.func39, Tryz.ntmps39
  go_wp2_with fail
  rw [HW0.out]
  go_wp2_with fail
  refine wp_region_quiet_below (by kernel_rfl) (by kernel_rfl) ?_
  repeat (quiet_step (exact hwd _ _))
  refine wpQuiet_nil ?_
  intro _ hw'
  obtain ⟨⟨dq, osq⟩, hw''⟩ := hw'
  subst hw''
  go_wp2
  go_ret2
  exact ⟨[116, 111, 58, 34, 97, 98, 32, 99, 34], rfl, (fun x h => (Option.some.inj h).symm), HB0.out.trans ((below_regrown W0 dq osq).mono HB0.out.size)⟩
set_option maxRecDepth 100000 in
set_option maxHeartbeats 4000000 in
theorem leaf_L8 : LeafC (.mk 4 0 [100] 0 []) (some [100, 42]) := by
  intro w r hr hT hP
  obtain ⟨A, c, rfl⟩ := leaf_open hr
  unfold RawQ.val
  dsimp only
  have hb0 : Below w.heap.size w (w.alloc (.cells #[.int .i64 4, .int .i64 0, .string ⟨#[100]⟩, .int .i64 0, .slice A 0 c] 25)) := (Below.refl _ _).alloc (Nat.le_refl _) _
  have HB0 := Lib.hid hb0
  have HK := Lib.hid (wbox_new w ⟨4, 0, [100], 0, (A, 0, c)⟩)
  have HTB := Lib.hid (hT.below hb0)
  have HPT := Lib.hid (hP.below hb0)
  have hf0 : w.cell? ⟨0, 0, none⟩ = some (.string ⟨#[]⟩) := hT.fld 0 (by decide)
  have hlt0 := hT.lt.2.2
  show Calls _ _ #[.agg #[.int .i64 4, .int .i64 0, .string ⟨#[100]⟩, .int .i64 0, .slice A 0 c]] _ _
  obtain ⟨W0, hW0⟩ : ∃ W0, w.alloc (.cells #[.int .i64 4, .int .i64 0, .string ⟨#[100]⟩, .int .i64 0, .slice A 0 c] 25) = W0 := ⟨_, rfl⟩
  have HW0 := Lib.hid hW0
  have hk : WBox W0 w.heap.size ⟨4, 0, [100], 0, (A, 0, c)⟩ := by rw [← hW0]; exact HK.out
  rw [hW0] at HB0 HTB HPT
  obtain ⟨x0, x1, x2, x3, x4, xl⟩ := hk.cells
  have x2 : W0.cell? ⟨w.heap.size, 2, none⟩ = some (.string ⟨#[100]⟩) := x2
  have y0 := cell_regrown x0
  have y1 := cell_regrown x1
  have y2 := cell_regrown x2
  have y3 := cell_regrown x3
  have y4 := cell_regrown x4
  have hwd : ∀ d os, Calls Tryz.prog 57 #[.agg #[.int .i64 4, .int .i64 0, .string ⟨#[100]⟩, .int .i64 0, .slice A 0 c], .int .i64 1, .int .i64 1] (Sort.grow (redrawn W0 d) os) fun e w'' => e = .returned (.bool true) ∧ ∃ p : Regrown, w'' = Sort.grow (redrawn W0 p.d) p.os := fun d os => Calls.regrown_of (worded_yes 4 0 [100] A 0 c 1 1 1 (by kernel_rfl) (by decide) (by decide) (by kernel_rfl) (by decide) _ (HTB.out.below (below_regrown W0 d os)))
  clear hT hP hr hb0 hk HK hW0
  go_enter Tryz.func39, Tryz.ntmps39
  go_wp2_with fail
  rw [HW0.out]
  go_wp2_with fail
  refine wp_region_quiet_below (by kernel_rfl) (by kernel_rfl) ?_
  repeat (quiet_step (exact hwd _ _))
  refine wpQuiet_nil ?_
  intro _ hw'
  obtain ⟨⟨dq, osq⟩, hw''⟩ := hw'
  subst hw''
  go_wp2
  go_ret2
  exact ⟨[100, 42], rfl, (fun x h => (Option.some.inj h).symm), HB0.out.trans ((below_regrown W0 dq osq).mono HB0.out.size)⟩
set_option maxRecDepth 100000 in
set_option maxHeartbeats 4000000 in
theorem leaf_L9 : LeafC (.mk 6 0 [] 7 []) (some [105, 110, 58, 55]) := by
  intro w r hr hT hP
  obtain ⟨A, c, rfl⟩ := leaf_open hr
  unfold RawQ.val
  dsimp only
  have hb0 : Below w.heap.size w (w.alloc (.cells #[.int .i64 6, .int .i64 0, .string ⟨#[]⟩, .int .i64 7, .slice A 0 c] 25)) := (Below.refl _ _).alloc (Nat.le_refl _) _
  have HB0 := Lib.hid hb0
  have HK := Lib.hid (wbox_new w ⟨6, 0, [], 7, (A, 0, c)⟩)
  have HTB := Lib.hid (hT.below hb0)
  have HPT := Lib.hid (hP.below hb0)
  have hf0 : w.cell? ⟨0, 0, none⟩ = some (.string ⟨#[]⟩) := hT.fld 0 (by decide)
  have hlt0 := hT.lt.2.2
  show Calls _ _ #[.agg #[.int .i64 6, .int .i64 0, .string ⟨#[]⟩, .int .i64 7, .slice A 0 c]] _ _
  obtain ⟨W0, hW0⟩ : ∃ W0, w.alloc (.cells #[.int .i64 6, .int .i64 0, .string ⟨#[]⟩, .int .i64 7, .slice A 0 c] 25) = W0 := ⟨_, rfl⟩
  have HW0 := Lib.hid hW0
  have hk : WBox W0 w.heap.size ⟨6, 0, [], 7, (A, 0, c)⟩ := by rw [← hW0]; exact HK.out
  rw [hW0] at HB0 HTB HPT
  obtain ⟨x0, x1, x2, x3, x4, xl⟩ := hk.cells
  have x2 : W0.cell? ⟨w.heap.size, 2, none⟩ = some (.string ⟨#[]⟩) := x2
  have y0 := cell_regrown x0
  have y1 := cell_regrown x1
  have y2 := cell_regrown x2
  have y3 := cell_regrown x3
  have y4 := cell_regrown x4
  have hwd : ∀ d os, Calls Tryz.prog 59 #[.int .i64 7] (Sort.grow (redrawn W0 d) os) fun e w'' => e = .returned (.string ⟨#[55]⟩) ∧ ∃ p : Regrown, w'' = Sort.grow (redrawn W0 p.d) p.os := fun d os => Calls.regrown_of (by have h := ntext_any ((7 : Nat) : Int) (by decide) (by decide) (Sort.grow (redrawn W0 d) os) (HPT.out.below (below_regrown W0 d os)); rw [itoa_one 7 (by decide)] at h; exact h)
  clear hT hP hr hb0 hk HK hW0
  go_enter Tryz.func39, Tryz.ntmps39
  go_wp2_with fail
  rw [HW0.out]
  go_wp2_with fail
  refine wp_region_quiet_below (by kernel_rfl) (by kernel_rfl) ?_
  repeat (quiet_step (exact hwd _ _))
  refine wpQuiet_nil ?_
  intro _ hw'
  obtain ⟨⟨dq, osq⟩, hw''⟩ := hw'
  subst hw''
  go_wp2
  go_ret2
  exact ⟨[105, 110, 58, 55], rfl, (fun x h => (Option.some.inj h).symm), HB0.out.trans ((below_regrown W0 dq osq).mono HB0.out.size)⟩
set_option maxRecDepth 100000 in
set_option maxHeartbeats 4000000 in
theorem leaf_L10 : LeafC (.mk 2 0 [97, 32, 98] 0 []) none := by
  intro w r hr hT hP
  obtain ⟨A, c, rfl⟩ := leaf_open hr
  unfold RawQ.val
  dsimp only
  have hb0 : Below w.heap.size w (w.alloc (.cells #[.int .i64 2, .int .i64 0, .string ⟨#[97, 32, 98]⟩, .int .i64 0, .slice A 0 c] 25)) := (Below.refl _ _).alloc (Nat.le_refl _) _
  have HB0 := Lib.hid hb0
  have HK := Lib.hid (wbox_new w ⟨2, 0, [97, 32, 98], 0, (A, 0, c)⟩)
  have HTB := Lib.hid (hT.below hb0)
  have HPT := Lib.hid (hP.below hb0)
  have hf0 : w.cell? ⟨0, 0, none⟩ = some (.string ⟨#[]⟩) := hT.fld 0 (by decide)
  have hlt0 := hT.lt.2.2
  show Calls _ _ #[.agg #[.int .i64 2, .int .i64 0, .string ⟨#[97, 32, 98]⟩, .int .i64 0, .slice A 0 c]] _ _
  obtain ⟨W0, hW0⟩ : ∃ W0, w.alloc (.cells #[.int .i64 2, .int .i64 0, .string ⟨#[97, 32, 98]⟩, .int .i64 0, .slice A 0 c] 25) = W0 := ⟨_, rfl⟩
  have HW0 := Lib.hid hW0
  have hk : WBox W0 w.heap.size ⟨2, 0, [97, 32, 98], 0, (A, 0, c)⟩ := by rw [← hW0]; exact HK.out
  rw [hW0] at HB0 HTB HPT
  obtain ⟨x0, x1, x2, x3, x4, xl⟩ := hk.cells
  have x2 : W0.cell? ⟨w.heap.size, 2, none⟩ = some (.string ⟨#[97, 32, 98]⟩) := x2
  have y0 := cell_regrown x0
  have y1 := cell_regrown x1
  have y2 := cell_regrown x2
  have y3 := cell_regrown x3
  have y4 := cell_regrown x4
  have hwd : ∀ d os, Calls Tryz.prog 57 #[.agg #[.int .i64 2, .int .i64 0, .string ⟨#[97, 32, 98]⟩, .int .i64 0, .slice A 0 c], .int .i64 1, .int .i64 1] (Sort.grow (redrawn W0 d) os) fun e w'' => e = .returned (.bool false) ∧ ∃ p : Regrown, w'' = Sort.grow (redrawn W0 p.d) p.os := fun d os => Calls.regrown_of (worded_no 2 0 [97, 32, 98] A 0 c 2 1 1 (by kernel_rfl) (by decide) (by decide) (by decide) _ (HTB.out.below (below_regrown W0 d os)))
  clear hT hP hr hb0 hk HK hW0
  go_enter Tryz.func39, Tryz.ntmps39
  go_wp2_with fail
  rw [HW0.out]
  go_wp2_with fail
  refine wp_region_quiet_below (by kernel_rfl) (by kernel_rfl) ?_
  repeat (quiet_step (exact hwd _ _))
  refine wpQuiet_nil ?_
  intro _ hw'
  obtain ⟨⟨dq, osq⟩, hw''⟩ := hw'
  subst hw''
  go_wp2
  go_ret2
  exact ⟨[97, 32, 98], rfl, (fun x h => by cases h), HB0.out.trans ((below_regrown W0 dq osq).mono HB0.out.size)⟩
end Go.Proofs.YtomcdhmcjndioaaGreatDoor
end
section
namespace Go.Proofs.YtomcdhmcjndioaaGreatDoor
open Go.RowKit
set_option linter.unusedVariables false

theorem own_grown {w w' : World} {B b : Nat} {v : Value} {ss : List (List UInt8)} (h : OwnStrs w B v ss) (hg : w.grownBy w' (some b)) (hb : ∀ k, v.ownBlock = some k → k ≠ b) : OwnStrs w' B v ss :=
  OwnStrs.block h fun k e => hg.block k (World.ownsRow.lt h k e).2 fun e2 => hb k e (by injection e2)
theorem fin_del (W : World) (ss : List (List UInt8)) (h1 : ss.length ≤ 1) (hx : ∀ x ∈ ss, x.length ≤ 1000000) (v : Value) (B : Nat) (hv : OwnStrs W B v ss) :
    Calls Tryz.prog 21 #[v, .func (.func 22) #[] #[.pointer (some ⟨W.heap.size + 1, 0, none⟩)]] ((W.alloc (.map #[] 0)).alloc (.cells #[.map (some W.heap.size)] 55)) (fun e w' => e = .returned v ∧ OwnStrs w' B v ss ∧ Below W.heap.size W w') := by
  have h3 := MapL.made strK W
  have hb3 : Below W.heap.size W ((W.alloc (.map #[] 0)).alloc (.cells #[.map (some W.heap.size)] 55)) := ((Below.refl _ _).alloc (Nat.le_refl _) _).alloc (by simp) _
  have h4 : MapL strK ((W.alloc (.map #[] 0)).alloc (.cells #[.map (some W.heap.size)] 55)) W.heap.size (fun _ => none) 0 := h3.below ((Below.refl _ _).alloc (Nat.le_refl _) _)
  have h5 := (MapKept.heap_alloc (W.alloc (.map #[] 0)) (.cells #[.map (some W.heap.size)] 55)).1
  rw [World.size_alloc] at h5
  refine (delfn_any ss h1 hx v B W.heap.size (W.heap.size + 1) _ (hv.below hb3) h5 h4).mono ?_
  rintro e w9 ⟨rfl, hg9⟩
  exact ⟨rfl, own_grown (hv.below hb3) hg9 fun k e => (by have := (World.ownsRow.lt hv k e).2; omega), hb3.grown hg9 hb3.size (fun k e => by injection e with e; omega)⟩
theorem flat_take {wss : List (List (List UInt8))} {k : Nat} (h : k < wss.length) : (wss.take (k + 1)).flatten = (wss.take k).flatten ++ wss[k] := by
  rw [List.take_succ_eq_append_getElem h, List.flatten_append, List.flatten_singleton]
theorem flat_le : ∀ (wss : List (List (List UInt8))) (k : Nat), (wss.take k).flatten.length ≤ wss.flatten.length
  | [], k => by simp
  | a :: r, 0 => by simp
  | a :: r, k + 1 => by
    have := flat_le r k
    simp only [List.take_succ_cons, List.flatten_cons, List.length_append]
    omega
set_option maxRecDepth 100000 in
set_option maxHeartbeats 4000000 in
theorem words_word (fld : Int) (t t1 : List UInt8) (hl : listP t = [t1]) (ht : t.length ≤ 1000) (ht1 : t1.length ≤ 1000000) : WordsC (.mk 2 fld t 0 []) [t1] := by
  intro w r hr hT
  obtain ⟨A, c, rfl⟩ := leaf_open hr
  unfold RawQ.val
  dsimp only
  have hb0 : Below w.heap.size w (w.alloc (.cells #[.int .i64 2, .int .i64 fld, .string (ba t), .int .i64 0, .slice A 0 c] 25)) := (Below.refl _ _).alloc (Nat.le_refl _) _
  have HB0 := Lib.hid hb0
  have HT := Lib.hid (hT.below hb0)
  obtain ⟨W0, hW0⟩ : ∃ W0, w.alloc (.cells #[.int .i64 2, .int .i64 fld, .string (ba t), .int .i64 0, .slice A 0 c] 25) = W0 := ⟨_, rfl⟩
  have HK := Lib.hid (show WBox W0 w.heap.size ⟨2, fld, t, 0, (A, 0, c)⟩ by rw [← hW0]; exact wbox_new w ⟨2, fld, t, 0, (A, 0, c)⟩)
  have HW0 := Lib.hid hW0
  rw [hW0] at HB0 HT
  have hlist := list_any t W0 HT.out.fs HT.out.ks (by omega)
  rw [hl] at hlist
  have HL := Lib.hid hlist
  have HT1 := Lib.hid ht1
  clear hr hT hb0 hW0 hlist hl
  go_enter Tryz.func10, Tryz.ntmps10
  go_wp2_with fail
  rw [HW0.out]
  refine HL.out.mono ?_
  rintro e w1 ⟨v, rfl, hv, hb⟩
  obtain ⟨A1, c1, hvv, hc1, hc2, hst⟩ := hv.strs
  subst hvv
  have HST := Lib.hid (show Strs w1 w1.heap.size A1 1 [t1] from hst)
  have HB1 := Lib.hid hb
  have HK1 := Lib.hid (show WBox w1 w.heap.size ⟨2, fld, t, 0, (A, 0, c)⟩ from (hb.block _ (heap_lt HK.out)).trans HK.out)
  obtain ⟨x0, x1, x2, x3, x4, xl⟩ := HK1.out.cells
  have HNL := Lib.hid (OwnStrs.nil_ w1 w1.heap.size)
  have hs1 : w1.heap.size ≤ w1.heap.size := Nat.le_refl _
  clear hv hb hst hc1 hc2
  go_wp2_with (at_builtin; go_must (refine wpList_joinStr (w := w1) HNL.out hs1 HST.out (by simp) rfl (.tmp 19) (.tmp 22) 32 c1 rfl Tryz.underlying32 rfl rfl ?_); intro v6 w6 e1 e2 e3; (
    have HN6 := Lib.hid (show OwnStrs w6 w1.heap.size v6 [t1] ∧ Below w1.heap.size w1 w6 from ⟨e1, (Below.refl _ _).grown e2 hs1 (fun q e => by cases e)⟩)
    have HK6 := Lib.hid (show WBox w6 w.heap.size ⟨2, fld, t, 0, (A, 0, c)⟩ from (HN6.out.2.block _ xl).trans HK1.out)
    clear x0 x1 x2 x3 x4 e1 e2 e3
    obtain ⟨x0, x1, x2, x3, x4, -⟩ := HK6.out.cells))
  go_loopw [30, 2] (fun iv v wr => iv = .int .i64 0 ∧ v = v6 ∧ wr = w6) (fun _ _ _ => 0)
  case atStart => exact ⟨rfl, rfl, rfl⟩
  case round =>
    obtain ⟨rfl, rfl, rfl⟩ := hrel
    have HBEL := Lib.hid (HB0.out.trans ((HB1.out.trans (HN6.out.2.mono HB1.out.size)).mono HB0.out.size))
    have hdf := fin_del wr [t1] (by simp) (fun x hx => by rw [List.mem_singleton] at hx; rw [hx]; exact HT1.out) _ _ HN6.out.1
    have HDF := Lib.hid hdf
    have hmm := @run_makeMap Tryz.prog
    clear hdf
    go_wp2_with fail
    refine HDF.out.mono ?_
    rintro e w9 ⟨rfl, hv9, hb9⟩
    have HV9 := Lib.hid hv9
    have HB9 := Lib.hid (HBEL.out.trans (hb9.mono (by first | exact HBEL.out.size | omega)))
    clear hv9 hb9
    go_wp2
    go_ret
    skip
    exact ⟨_, rfl, OwnStrs.more HV9.out (Nat.le_trans HB0.out.size HB1.out.size), HB9.out⟩
set_option maxRecDepth 100000 in
set_option maxHeartbeats 4000000 in
theorem words_not (fld n : Int) (t : List UInt8) (l : List Qry) : WordsC (.mk 13 fld t n l) [] := by
  intro w r hr hT
  obtain ⟨o', f', t', n', A, m, c⟩ := r
  obtain ⟨kids, raws, e, hk, _, _⟩ := hr.open_
  injection e with e1 e2 e3 e4 e5
  subst e1 e2 e3 e4 e5
  unfold RawQ.val
  dsimp only
  have hb0 : Below w.heap.size w (w.alloc (.cells #[.int .i64 13, .int .i64 fld, .string (ba t), .int .i64 n, .slice A m c] 25)) := (Below.refl _ _).alloc (Nat.le_refl _) _
  have HB0 := Lib.hid hb0
  clear hr hT hk hb0
  go_enter Tryz.func10, Tryz.ntmps10
  have HBEL := Lib.hid HB0.out
  have hdf := fin_del (w.alloc (.cells #[.int .i64 13, .int .i64 fld, .string (ba t), .int .i64 n, .slice A m c] 25)) [] (by simp) (fun x hx => by cases hx) _ _ (OwnStrs.nil_ (w.alloc (.cells #[.int .i64 13, .int .i64 fld, .string (ba t), .int .i64 n, .slice A m c] 25)) w.heap.size)
  rw [World.size_alloc w (.cells #[.int .i64 13, .int .i64 fld, .string (ba t), .int .i64 n, .slice A m c] 25)] at hdf
  have HDF := Lib.hid hdf
  have hmm := @run_makeMap Tryz.prog
  clear hdf
  go_wp2_with fail
  refine HDF.out.mono ?_
  rintro e w9 ⟨rfl, hv9, hb9⟩
  have HV9 := Lib.hid hv9
  have HB9 := Lib.hid (HBEL.out.trans (hb9.mono (by first | exact HBEL.out.size | omega)))
  clear hv9 hb9
  go_wp2
  go_ret
  skip
  exact ⟨_, rfl, OwnStrs.more HV9.out (Nat.le_refl _), HB9.out⟩
set_option maxRecDepth 100000 in
set_option maxHeartbeats 4000000 in
theorem words_node (op fld n0 : Int) (t : List UInt8) (l : List Qry) (wss : List (List (List UInt8))) (n : Nat) (hn : l.length = n) (hws : wss.length = n) (h2 : op ≠ 2) (h3 : op ≠ 3) (h4 : op ≠ 4) (h13 : op ≠ 13) (h1 : wss.flatten.length ≤ 1) (hx : ∀ x ∈ wss.flatten, x.length ≤ 1000000)
    (IH : ∀ k (h1 : k < l.length) (h2 : k < wss.length), WordsC l[k] wss[k]) : WordsC (.mk op fld t n0 l) wss.flatten := by
  intro w r hr hT
  obtain ⟨o', f', t', n', A, m, c⟩ := r
  obtain ⟨kids, raws, e, hk, _, _⟩ := hr.open_
  injection e with e1 e2 e3 e4 e5
  subst e1 e2 e3 e4 e5
  obtain rfl : n = m := by rw [← hn, hk.size]
  unfold RawQ.val
  dsimp only
  have hmx := hk.max
  unfold maxLen at hmx
  have hb0 : Below w.heap.size w (w.alloc (.cells #[.int .i64 op, .int .i64 fld, .string (ba t), .int .i64 n0, .slice A n c] 25)) := (Below.refl _ _).alloc (Nat.le_refl _) _
  have HB0 := Lib.hid hb0
  have HKI := Lib.hid (hk.bel hb0)
  have HT := Lib.hid (hT.below hb0)
  obtain ⟨W0, hW0⟩ : ∃ W0, w.alloc (.cells #[.int .i64 op, .int .i64 fld, .string (ba t), .int .i64 n0, .slice A n c] 25) = W0 := ⟨_, rfl⟩
  have HK := Lib.hid (show WBox W0 w.heap.size ⟨op, fld, t, n0, (A, n, c)⟩ by rw [← hW0]; exact wbox_new w ⟨op, fld, t, n0, (A, n, c)⟩)
  have HW0 := Lib.hid hW0
  rw [hW0] at HB0 HKI HT
  obtain ⟨x0, x1, x2, x3, x4, xl⟩ := HK.out.cells
  have HIH := Lib.hid IH
  have HWS := Lib.hid hws
  have HNN := Lib.hid hn
  have HLE := Lib.hid h1
  have HXX := Lib.hid hx
  have g2 : (op == 2) = false := by simpa using h2
  have g3 : (op == 3) = false := by simpa using h3
  have g4 : (op == 4) = false := by simpa using h4
  have g13 : (op == 13) = false := by simpa using h13
  have g13b : (op != 13) = true := by simpa using h13
  clear hr hT hk hb0 hW0 IH hws hn h1 hx h2 h3 h4 h13
  go_enter Tryz.func10, Tryz.ntmps10
  go_wp2
  rw [HW0.out]
  go_loopw [30, 2] (fun iv v wr => ∃ k : Nat, k ≤ n ∧ iv = .int .i64 (k : Int) ∧ Hid (OwnStrs wr W0.heap.size v (wss.take k).flatten ∧ Below W0.heap.size W0 wr)) (fun iv _ _ => n - (intOf iv).toNat)
  case atStart => exact ⟨0, Nat.zero_le _, rfl, Lib.hid ⟨OwnStrs.nil_ _ _, Below.refl _ _⟩⟩
  case round =>
    obtain ⟨k, hk, rfl, HR⟩ := hrel
    by_cases hlt : k < n
    · have hk2 : (k : Int) < n := by omega
      have hkl : k < l.length := by rw [HNN.out]; exact hlt
      have hkt : k < wss.length := by rw [HWS.out]; exact hlt
      have HKD := Lib.hid (HKI.out.bel HR.out.2)
      have hkr : k < raws.length := by rw [HKD.out.len]; exact hkl
      obtain ⟨ad, rfl, la, c0, c1, c2, c3, c4, -⟩ := HKD.out.row.2 k hkr
      have hda := HKD.out.all k hkr hkl
      have hih := HIH.out k hkl hkt
      have hfl := flat_take hkt
      have hle := flat_le wss k
      have hle2 := flat_le wss (k + 1)
      obtain ⟨q, hq⟩ : ∃ q, l[k] = q := ⟨_, rfl⟩
      obtain ⟨tk, htk⟩ : ∃ t, wss[k] = t := ⟨_, rfl⟩
      obtain ⟨r, hr⟩ : ∃ r, raws[k] = r := ⟨_, rfl⟩
      rw [hq] at hda hih
      rw [htk] at hih hfl
      rw [hr] at c0 c1 c2 c3 c4 hda
      rw [hfl, List.length_append] at hle2
      obtain ⟨oa, fa, ta, na, Aa, ma, ca⟩ := r
      dsimp only at c0 c1 c2 c3 c4
      obtain ⟨ob, hob⟩ : ∃ o : Obj, .cells #[.int .i64 oa, .int .i64 fa, .string (ba ta), .int .i64 na, .slice Aa ma ca] 25 = o := ⟨_, rfl⟩
      have hbw : Below wr.heap.size wr (wr.alloc ob) := (Below.refl _ _).alloc (Nat.le_refl _) _
      have hc := hih (wr.alloc ob) _ (hda.bel hbw) ((HT.out.below HR.out.2).below hbw)
      unfold RawQ.val at hc
      dsimp only at hc
      have HC := Lib.hid hc
      have HBW := Lib.hid hbw
      have HOO := Lib.hid hob
      have HFL := Lib.hid hfl
      have HOW0 := Lib.hid (HR.out.1.below hbw)
      have hTL : (wss.take k).flatten.length + tk.length ≤ 1000000000 := by have := HLE.out; omega
      have HTL := Lib.hid hTL
      clear hq htk hkl hkt hda hih hr HKD hkr hob hbw hc hfl hle hle2 hTL
      go_wp2_with fail
      rw [HOO.out]
      refine HC.out.mono ?_
      rintro e w4 ⟨v4, rfl, hv4, hb4⟩
      obtain ⟨A4, c4', rfl, hcc1, hcc2, hst4⟩ := hv4.strs
      have HOW1 := Lib.hid (HOW0.out.below hb4)
      have HST4 := Lib.hid hst4
      have HB4 := Lib.hid (HR.out.2.trans ((HBW.out.trans (hb4.mono HBW.out.size)).mono HR.out.2.size))
      have hs4 : W0.heap.size ≤ w4.heap.size := HB4.out.size
      have HLT := Lib.hid (show ∀ b, Value.ownBlock _ = some b → W0.heap.size ≤ b from fun b e => (World.ownsRow.lt HOW1.out b e).1)
      clear hv4 hb4 hst4 hcc1 hcc2
      go_wp2_with (at_builtin; go_must (refine wpList_joinStr (w := w4) HOW1.out hs4 HST4.out (by have := HTL.out; omega) rfl (.tmp 34) (.tmp 36) 32 c4' rfl Tryz.underlying32 rfl rfl ?_); intro v6 w6 e1 e2 e3; (
        have HN6 := Lib.hid (show OwnStrs w6 W0.heap.size v6 (wss.take (k + 1)).flatten ∧ Below W0.heap.size W0 w6 from ⟨by rw [HFL.out]; exact e1, HB4.out.grown e2 hs4 (fun q e => HLT.out q e)⟩)
        clear e1 e2 e3))
      go_roundw
      case rel => exact ⟨k + 1, by omega, by go_num, HN6⟩
      case measure => simp [intOf] <;> omega
    · obtain rfl : n = k := by omega
      have HFW := Lib.hid (show (wss.take n).flatten = wss.flatten by rw [List.take_of_length_le (by rw [HWS.out]; exact Nat.le_refl _)])
      have HBEL := Lib.hid (HB0.out.trans (HR.out.2.mono HB0.out.size))
      have hdf := fin_del wr _ (by rw [HFW.out]; exact HLE.out) (by rw [HFW.out]; exact HXX.out) _ _ HR.out.1
      have HDF := Lib.hid hdf
      have hmm := @run_makeMap Tryz.prog
      clear hdf
      go_wp2_with fail
      refine HDF.out.mono ?_
      rintro e w9 ⟨rfl, hv9, hb9⟩
      have HV9 := Lib.hid hv9
      have HB9 := Lib.hid (HBEL.out.trans (hb9.mono (by first | exact HBEL.out.size | omega)))
      clear hv9 hb9
      go_wp2
      go_ret
      rw [← HFW.out]
      exact ⟨_, rfl, OwnStrs.more HV9.out HB0.out.size, HB9.out⟩
end Go.Proofs.YtomcdhmcjndioaaGreatDoor
end
section
namespace Go.Proofs.YtomcdhmcjndioaaGreatDoor
open Go.RowKit
set_option linter.unusedVariables false

/-- Whether parentheses stand around a query of kind op below one of kind i. -/
def brkQ (op i : Int) : Bool := (op == 12 && i != 0) || (op == 11 && (i == 11 || i == 13))
set_option maxRecDepth 100000 in
set_option maxHeartbeats 4000000 in
theorem bracketed_any (op fld n : Int) (t : List UInt8) (A : Option Addr) (m c : Nat) (i : Int) (w : World) :
    Calls Tryz.prog 38 #[.agg #[.int .i64 op, .int .i64 fld, .string (ba t), .int .i64 n, .slice A m c], .int .i64 i] w (WdPost w (brkQ op i)) := by
  have hb : Below w.heap.size w (w.alloc (.cells #[.int .i64 op, .int .i64 fld, .string (ba t), .int .i64 n, .slice A m c] 25)) := (Below.refl _ _).alloc (Nat.le_refl _) _
  have HB := Lib.hid hb
  have HV := Lib.hid (show brkQ op i = ((op == 12 && i != 0) || (op == 11 && (i == 11 || i == 13))) from rfl)
  obtain ⟨V, hV⟩ : ∃ V, brkQ op i = V := ⟨_, rfl⟩
  rw [hV] at HV ⊢
  clear hb hV
  by_cases h12 : op = 12
  · subst h12
    by_cases h0 : i = 0
    · subst h0
      have HE := Lib.hid (HV.out.trans rfl)
      go_enter Tryz.func38, Tryz.ntmps38
      go_wp2
      go_ret
      exact ⟨by rw [HE.out]; rfl, HB.out⟩
    · have g1 : (i == 0) = false := by simpa using h0
      have g2 : (i != 0) = true := by simpa using h0
      have HE := Lib.hid (show V = true by rw [HV.out, g2]; rfl)
      go_enter Tryz.func38, Tryz.ntmps38
      go_wp2
      go_ret
      exact ⟨by rw [HE.out]; rfl, HB.out⟩
  · have g0 : (op == 12) = false := by simpa using h12
    by_cases h11 : op = 11
    · subst h11
      by_cases h1 : i = 11
      · subst h1
        have HE := Lib.hid (show V = true by rw [HV.out]; rfl)
        go_enter Tryz.func38, Tryz.ntmps38
        go_wp2
        go_ret
        exact ⟨by rw [HE.out]; rfl, HB.out⟩
      · have g1 : (i == 11) = false := by simpa using h1
        by_cases h3 : i = 13
        · subst h3
          have HE := Lib.hid (show V = true by rw [HV.out]; rfl)
          go_enter Tryz.func38, Tryz.ntmps38
          go_wp2
          go_ret
          exact ⟨by rw [HE.out]; rfl, HB.out⟩
        · have g3 : (i == 13) = false := by simpa using h3
          have HE := Lib.hid (show V = false by rw [HV.out, g1, g3]; rfl)
          go_enter Tryz.func38, Tryz.ntmps38
          go_wp2
          go_ret
          exact ⟨by rw [HE.out]; rfl, HB.out⟩
    · have g1 : (op == 11) = false := by simpa using h11
      have HE := Lib.hid (show V = false by rw [HV.out, g0, g1]; rfl)
      go_enter Tryz.func38, Tryz.ntmps38
      go_wp2
      go_ret
      exact ⟨by rw [HE.out]; rfl, HB.out⟩
/-- What is claimed of write at the query q, at depth d below a parent of kind i. -/
def WriteC (q : Qry) (d i : Int) (o : Option (List UInt8)) : Prop := ∀ (w : World) (r : RawQ), QDeep w (fun _ => True) r q → QTabs w → PowTab w → Calls Tryz.prog 23 #[r.val, .int .i64 d, .int .i64 i] w (WrPost w o)
set_option maxRecDepth 100000 in
set_option maxHeartbeats 4000000 in
theorem write_leaf (op fld n : Int) (t : List UInt8) (d i : Int) (o : Option (List UInt8)) (h11 : op ≠ 11) (h12 : op ≠ 12) (h13 : op ≠ 13) (hd0 : 0 ≤ d) (hd : d ≤ 8) (hl : LeafC (.mk op fld t n []) o) : WriteC (.mk op fld t n []) d i o := by
  intro w r hr hT hP
  obtain ⟨A, c, rfl⟩ := leaf_open hr
  unfold RawQ.val
  dsimp only
  obtain ⟨obj, hobj⟩ : ∃ obj : Obj, .cells #[.int .i64 op, .int .i64 fld, .string (ba t), .int .i64 n, .slice A 0 c] 25 = obj := ⟨_, rfl⟩
  have HOB := Lib.hid hobj
  have hb0 : Below w.heap.size w (w.alloc obj) := (Below.refl _ _).alloc (Nat.le_refl _) _
  have HB0 := Lib.hid hb0
  have HK := Lib.hid (show WBox (w.alloc obj) w.heap.size ⟨op, fld, t, n, (A, 0, c)⟩ by rw [← hobj]; exact wbox_new w ⟨op, fld, t, n, (A, 0, c)⟩)
  have HR := Lib.hid (hr.bel hb0)
  have HT := Lib.hid (hT.below hb0)
  have HP := Lib.hid (hP.below hb0)
  have HLF := Lib.hid hl
  have HBR := Lib.hid (fun W => bracketed_any op fld n t A 0 c i W)
  rw [show brkQ op i = false by unfold brkQ; rw [show (op == 12) = false by simpa using h12, show (op == 11) = false by simpa using h11]; rfl] at HBR
  have g1 : (op == 11) = false := by simpa using h11
  have g2 : (op == 12) = false := by simpa using h12
  have g3 : (op == 13) = false := by simpa using h13
  have g4 : decide (8 < d) = false := decide_eq_false (by omega)
  have g5 : ¬ 8 < d := by omega
  unfold WdPost at HBR
  clear hr hT hP hb0 hobj hl
  go_enter Tryz.func23, Tryz.ntmps23
  go_wp2_with fail
  rw [HOB.out]
  refine (HBR.out _).mono ?_
  rintro e w1 ⟨rfl, hb1⟩
  have HK1 := Lib.hid (show WBox w1 w.heap.size ⟨op, fld, t, n, (A, 0, c)⟩ from (hb1.block _ (by simp)).trans HK.out)
  obtain ⟨x0, x1, x2, x3, x4, xl⟩ := HK1.out.cells
  have HB1 := Lib.hid (HB0.out.trans (hb1.mono HB0.out.size))
  have HR1 := Lib.hid (HR.out.bel hb1)
  have HT1 := Lib.hid (HT.out.below hb1)
  have HP1 := Lib.hid (HP.out.below hb1)
  clear hb1
  go_wp2_with fail
  go_quiet (fail)
  have hbn : Below w1.heap.size w1 (w1.drewN nq) := below_drewN w1 nq
  have HL := HLF.out (w1.drewN nq) _ (HR1.out.bel hbn) (HT1.out.below hbn) (HP1.out.below hbn)
  unfold RawQ.val at HL
  dsimp only at HL
  have HL := Lib.hid HL
  have HBN := Lib.hid hbn
  clear hbn
  go_wp2_with fail
  refine HL.out.mono ?_
  rintro e w2 ⟨t2, rfl, hx, hb2⟩
  have HX := Lib.hid hx
  have HB2 := Lib.hid (HB1.out.trans ((HBN.out.trans hb2).mono HB1.out.size))
  clear hx hb2
  go_wp2
  go_ret2
  exact ⟨t2, rfl, HX.out, HB2.out⟩
end Go.Proofs.YtomcdhmcjndioaaGreatDoor
end
section
namespace Go.Proofs.YtomcdhmcjndioaaGreatDoor
open Go.RowKit
set_option linter.unusedVariables false

theorem bare_rest0 : ∀ m : List UInt8, bareN (m.drop (bareN m)) = 0
  | [] => rfl
  | a :: r => by
    by_cases h : edgeQ a = true
    · have e : bareN (a :: r) = 0 := by unfold bareN; rw [List.takeWhile_cons_of_neg (by rw [h]; decide)]; rfl
      rw [e]; exact e
    · have h2 : edgeQ a = false := by simpa using h
      have e : bareN (a :: r) = bareN r + 1 := by unfold bareN; rw [List.takeWhile_cons_of_pos (by rw [h2]; rfl)]; rfl
      rw [e]
      exact bare_rest0 r
theorem bare_rest (l : List UInt8) (k : Nat) : BareRel l k (k + bareN (l.drop k)) ∧ bareN (l.drop (k + bareN (l.drop k))) = 0 := by
  have h := bare_rest0 (l.drop k)
  rw [List.drop_drop] at h
  exact ⟨by unfold BareRel; omega, h⟩
theorem bare_one {l : List UInt8} {k : Nat} (hk : k < l.length) (h : edgeQ l[k] = false) : 1 ≤ bareN (l.drop k) := by
  have := bareN_step hk h
  omega
theorem bareN_le (l : List UInt8) (k : Nat) (hk : k ≤ l.length) : k + bareN (l.drop k) ≤ l.length := by
  have h := (List.takeWhile_prefix (p := fun c => !edgeQ c) (l := l.drop k)).length_le
  rw [List.length_drop] at h
  unfold bareN
  omega
theorem bare_cases {l : List UInt8} {k t : Nat} (h : BareRel l k t) (h0 : bareN (l.drop t) = 0) :
    bareQ k (l.drop k) = if (t < l.length ∧ l.getD t 0 = 34) ∧ ((l.take t).drop k).getLast? = some 58 ∧ 0 < fieldQ ((l.take t).drop k).dropLast then quoQ k t (l.drop (t + 1)) (fieldQ ((l.take t).drop k).dropLast) ((l.take t).drop k) else ⟨k, t, .bare ((l.take t).drop k)⟩ := by
  have h1 := bare_text h h0
  have h2 := bare_len h h0
  by_cases hq : t < l.length ∧ l.getD t 0 = 34
  · have hg : l[t]'hq.1 = 34 := by
      have := hq.2
      rw [List.getD_eq_getElem?_getD, List.getElem?_eq_getElem hq.1] at this
      exact this
    unfold bareQ
    dsimp only
    rw [h2.1, List.drop_drop, show k + (t - k) = t by omega, h1, List.drop_eq_getElem_cons hq.1, hg]
    show (if (List.drop k (List.take t l)).getLast? = some 58 ∧ 0 < fieldQ (List.drop k (List.take t l)).dropLast then quoQ k t (List.drop (t + 1) l) (fieldQ (List.drop k (List.take t l)).dropLast) (List.drop k (List.take t l)) else _) = _
    by_cases hc : (List.drop k (List.take t l)).getLast? = some 58 ∧ 0 < fieldQ (List.drop k (List.take t l)).dropLast
    · rw [if_pos hc, if_pos ⟨hq, hc⟩]
    · rw [if_neg hc, if_neg (fun x => hc x.2)]
  · rw [if_neg (fun x => hq x.1)]
    refine bare_plain h h0 fun ht e => hq ⟨ht, ?_⟩
    rw [List.getD_eq_getElem?_getD, List.getElem?_eq_getElem ht]
    exact e
theorem edgeQ_eqp (c : UInt8) : edgeQ c = (blankQ c || c == 40 || c == 41 || c == 34) := rfl
/-- Block g holds a piece that is empty as yet. -/
def ResAt (w : World) (g : Nat) : Prop := w.heap[g]? = some (.cells #[.int .i64 0, .int .i64 0, .int .i64 0, .string ⟨#[]⟩, .int .i64 0, .bool false] 41 (0, 0))
theorem ResAt.below {w w' : World} {g B : Nat} (h : ResAt w g) (hb : Below B w w') (hg : g < B) : ResAt w' g := (hb.block g hg).trans h
theorem ResAt.cells {w : World} {g : Nat} (h : ResAt w g) : w.cell? ⟨g, 0, none⟩ = some (.int .i64 0) ∧ w.cell? ⟨g, 1, none⟩ = some (.int .i64 0) ∧ w.cell? ⟨g, 2, none⟩ = some (.int .i64 0) ∧ w.cell? ⟨g, 3, none⟩ = some (.string ⟨#[]⟩) ∧ w.cell? ⟨g, 4, none⟩ = some (.int .i64 0) ∧ w.cell? ⟨g, 5, none⟩ = some (.bool false) ∧ ∀ i, w.frozen? ⟨g, i, none⟩ = false := by
  unfold ResAt at h
  refine ⟨?_, ?_, ?_, ?_, ?_, ?_, fun i => Lib.frozen_of_heap h i⟩ <;> (rw [Lib.cell_of_heap h]; rfl)
theorem resAt_new (w : World) (o : Obj) : ResAt ((w.alloc (.cells #[.int .i64 0, .int .i64 0, .int .i64 0, .string ⟨#[]⟩, .int .i64 0, .bool false] 41)).alloc o) w.heap.size := by
  have h1 := (MapKept.heap_alloc w (.cells #[.int .i64 0, .int .i64 0, .int .i64 0, .string ⟨#[]⟩, .int .i64 0, .bool false] 41)).1
  exact (heap_alloc_old _ _ (by simp)).trans h1
end Go.Proofs.YtomcdhmcjndioaaGreatDoor
end
