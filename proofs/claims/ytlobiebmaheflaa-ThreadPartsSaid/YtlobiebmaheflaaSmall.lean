/- The law's example: small answers true. -/
import Derived.Test.YtlobiebmaheflaaPairs
namespace Go.Proofs.Ytlobiebmaheflaa
open Go.RowKit
set_option linter.unusedVariables false

theorem fits_small {x : ByteArray} (h : x.size ≤ 10) : Fits x := by unfold Fits; simp only [maxLen]; omega
def SmallPost (w : World) (e : Ending) (w' : World) : Prop := e = .returned (.bool true) ∧ Below w.heap.size w w'
set_option maxRecDepth 100000 in
set_option maxHeartbeats 4000000 in
theorem small_any (w : World) : Calls Try.prog 7 #[] w (SmallPost w) := by
  have fa : Fits sa := fits_small (by decide)
  have fb : Fits sb := fits_small (by decide)
  have fc : Fits sc := fits_small (by decide)
  have fx : Fits sx := fits_small (by decide)
  have fy : Fits sy := fits_small (by decide)
  have fe : Fits se := fits_small (by decide)
  have FF := Lib.hid (And.intro fa (And.intro fb (And.intro fc (And.intro fx (And.intro fy fe)))))
  clear fa fb fc fx fy fe
  go_enter Try.func7, Try.ntmps7
  go_wp2_with fail
  refine (new_any w).mono ?_
  intro e w1 h1
  have H1 := Lib.hid (One.new (Below.refl _ w) h1)
  obtain ⟨rfl, -, -⟩ := h1
  obtain ⟨hd, hhd⟩ : ∃ x, w.heap.size + 2 = x := ⟨_, rfl⟩
  rw [hhd] at H1 ⊢
  have HHD := Lib.hid hhd
  clear hhd
  go_wp2_with fail
  refine (add_any 1 sa sx [] none 0 0 w1 H1.out.th (by omega) (strs_nil _ _) (by omega) (by omega) (by intro e; rfl) (by simp only [maxLen]; omega) FF.out.1 FF.out.2.2.2.1 (by decide) (by omega)).mono ?_
  rintro e w2 ⟨rfl, tag2, hth, hO, hG⟩
  have h1 := H1.out.turn hth hO hG
  rw [add1.2] at h1
  rw [add1.1]
  have H2 := Lib.hid h1
  clear h1 hth hO hG
  have h1 : One w (w2.alloc (.cells #[.string sb] 9)) _ hd _ _ := H2.out.below ((Below.refl _ _).alloc (Nat.le_refl _) _)
  have hs : Strs (w2.alloc (.cells #[.string sb] 9)) (w2.alloc (.cells #[.string sb] 9)).heap.size (some ⟨w2.heap.size, 0, none⟩) 1 [sb] := strs_new w2 [sb] (by intro s hs; simp only [List.mem_cons, List.not_mem_nil, or_false] at hs; rcases hs with rfl <;> first | exact FF.out.1 | exact FF.out.2.1 | exact FF.out.2.2.2.2.2)
  have HA := Lib.hid h1
  have HS := Lib.hid hs
  clear h1 hs
  go_wp2_with fail
  refine (add_any 2 se sx [sb] (some ⟨w2.heap.size, 0, none⟩) 1 1 (w2.alloc (.cells #[.string sb] 9)) HA.out.th (by omega) HS.out (by omega) (by omega) (by intro e; cases e) (by simp only [maxLen]; omega) FF.out.2.2.2.2.2 FF.out.2.2.2.1 (by decide) (by omega)).mono ?_
  rintro e w3 ⟨rfl, tag3, hth, hO, hG⟩
  have h1 := HA.out.turn hth hO hG
  rw [add2.2] at h1
  rw [add2.1]
  have H3 := Lib.hid h1
  clear h1 hth hO hG
  clear HA HS
  go_wp2_with fail
  refine (all_any w3 H3.out.th (by decide)).mono ?_
  rintro e w4 ⟨v, rfl, hv, hb⟩
  rw [all2] at hv
  obtain ⟨TA, tc, rfl, -, -, -⟩ := hv.lists (by decide)
  have H4 := Lib.hid (H3.out.below hb)
  clear hv hb
  have h1 : One w (w4.alloc (.cells #[.string sa, .string sb, .string se] 9)) _ hd _ _ := H4.out.below ((Below.refl _ _).alloc (Nat.le_refl _) _)
  have hs : Strs (w4.alloc (.cells #[.string sa, .string sb, .string se] 9)) (w4.alloc (.cells #[.string sa, .string sb, .string se] 9)).heap.size (some ⟨w4.heap.size, 0, none⟩) 3 [sa, sb, se] := strs_new w4 [sa, sb, se] (by intro s hs; simp only [List.mem_cons, List.not_mem_nil, or_false] at hs; rcases hs with rfl | rfl | rfl <;> first | exact FF.out.1 | exact FF.out.2.1 | exact FF.out.2.2.2.2.2)
  have HA := Lib.hid h1
  have HS := Lib.hid hs
  clear h1 hs
  go_wp2_with fail
  refine (add_any 3 sc sx [sa, sb, se] (some ⟨w4.heap.size, 0, none⟩) 3 3 (w4.alloc (.cells #[.string sa, .string sb, .string se] 9)) HA.out.th (by omega) HS.out (by omega) (by omega) (by intro e; cases e) (by simp only [maxLen]; omega) FF.out.2.2.1 FF.out.2.2.2.1 (by decide) (by omega)).mono ?_
  rintro e w5 ⟨rfl, tag5, hth, hO, hG⟩
  have h1 := HA.out.turn hth hO hG
  rw [add3.2] at h1
  rw [add3.1]
  have H5 := Lib.hid h1
  clear h1 hth hO hG
  clear HA HS
  go_wp2_with fail
  refine (add_any 4 sa sy [] none 0 0 w5 H5.out.th (by omega) (strs_nil _ _) (by omega) (by omega) (by intro e; rfl) (by simp only [maxLen]; omega) FF.out.1 FF.out.2.2.2.2.1 (by decide) (by omega)).mono ?_
  rintro e w6 ⟨rfl, tag6, hth, hO, hG⟩
  have h1 := H5.out.turn hth hO hG
  rw [add4.2] at h1
  rw [add4.1]
  have H6 := Lib.hid h1
  clear h1 hth hO hG
  go_wp2_with fail
  refine (add_any 3 se se [] none 0 0 w6 H6.out.th (by omega) (strs_nil _ _) (by omega) (by omega) (by intro e; rfl) (by simp only [maxLen]; omega) FF.out.2.2.2.2.2 FF.out.2.2.2.2.2 (by decide) (by omega)).mono ?_
  rintro e w7 ⟨rfl, tag7, hth, hO, hG⟩
  have h1 := H6.out.turn hth hO hG
  rw [(add5 (idsOf se []) se).2] at h1
  rw [(add5 [] se).1]
  have H7 := Lib.hid h1
  clear h1 hth hO hG
  go_wp2_with fail
  refine (add_any 0 se se [] none 0 0 w7 H7.out.th (by omega) (strs_nil _ _) (by omega) (by omega) (by intro e; rfl) (by simp only [maxLen]; omega) FF.out.2.2.2.2.2 FF.out.2.2.2.2.2 (by decide) (by omega)).mono ?_
  rintro e w8 ⟨rfl, tag8, hth, hO, hG⟩
  have h1 := H7.out.turn hth hO hG
  rw [(add6 (idsOf se []) se).2] at h1
  rw [(add6 [] se).1]
  have H8 := Lib.hid h1
  clear h1 hth hO hG
  have HF := Lib.hid H8.out.th.fresh
  go_wp2_with fail
  refine (group_any 2 w8 H8.out.th (by decide) (by omega)).mono ?_
  rintro e w9 ⟨v, rfl, hv, hth, hO⟩
  rw [grp2] at hv
  obtain ⟨GA, gc, rfl, gq1, gq2, gI⟩ := hv.ints
  have H9 := Lib.hid (H8.out.stay hth hO)
  have HV := Lib.hid hv
  clear hv hth hO gI gq1 gq2
  go_wp2_with fail
  refine (all_any w9 H9.out.th (by decide)).mono ?_
  rintro e w10 ⟨v, rfl, hv, hb⟩
  rw [all4] at hv
  obtain ⟨RA, rc, rfl, rq1, rq2, rI⟩ := hv.lists (by decide)
  have H10 := Lib.hid (H9.out.below hb)
  have HR := Lib.hid hv
  have HV2 := Lib.hid (HV.out.block fun b e => hb.block b (HV.out.1.lt b e).2)
  have HSZ := Lib.hid hb.size
  clear hv hb rI rq1 rq2
  go_wp2_with fail
  refine (of_any 3 w10 H10.out.th (by decide) (by omega)).mono ?_
  rintro e w11 ⟨rfl, hth, hO⟩
  rw [of3]
  have hfr : ∀ b, w8.heap.size ≤ b → tag8 b = tOut := HF.out
  have HR2 := Lib.hid (HR.out.off fun b hb hl => hO.block b hl fun h => h.1 (H9.out.th.fresh b hb))
  have HV3 := Lib.hid (HV2.out.block fun b e => hO.block b (HV2.out.1.lt b e).2 fun h => h.1 (hfr b (HV2.out.1.lt b e).1))
  have H11 := Lib.hid (H10.out.stay hth hO)
  have HSZ2 := Lib.hid hO.size
  clear hth hO hfr
  go_wp2_with fail
  refine (copy_any w11 H11.out.th (by decide)).mono ?_
  rintro e w12 ⟨hdC, tagC, rfl, hth, hold, hb⟩
  have H12 := Lib.hid (H11.out.copied hth hold hb)
  have HOLD := Lib.hid hold
  have hk : ∀ b, b < w11.heap.size → w12.heap[b]? = w11.heap[b]? := fun b hl => hb.block b hl
  have HK12 := Lib.hid hk
  have HSZC := Lib.hid hb.size
  clear hth hold hb hk
  go_wp2_with fail
  refine (drop_any 3 w12 H12.out.b.th (by decide) (by omega) (by decide)).mono ?_
  rintro e w13 ⟨b0, rfl, hb0, tagC0, hth, hO, hG⟩
  have h1 := H12.out.turn' hth hO hG
  rw [del3] at h1
  have H13 := Lib.hid h1
  have hbb : b0 = true := by
    exact hb0.2 ⟨x3, by simp, rfl⟩
  subst hbb
  have hold2 : ∀ b, b < w11.heap.size → tagC0 b = tOut := fun b hl => (hG b (by have := HSZC.out; omega)).1 (HOLD.out b hl)
  have hk : ∀ b, b < w11.heap.size → w13.heap[b]? = w11.heap[b]? := fun b hl => (hO.block b (by have := HSZC.out; omega) fun h => h.1 (HOLD.out b hl)).trans (HK12.out b hl)
  have HOLD0 := Lib.hid hold2
  have HK13 := Lib.hid hk
  have HSZC := Lib.hid (Nat.le_trans HSZC.out hO.size)
  clear h1 hth hO hG hold2 hk hb0
  go_wp2_with fail
  refine (drop_any 3 w13 H13.out.b.th (by decide) (by omega) (by decide)).mono ?_
  rintro e w14 ⟨b1, rfl, hb1, tagC1, hth, hO, hG⟩
  have h1 := H13.out.turn' hth hO hG
  rw [del3'] at h1
  have H14 := Lib.hid h1
  have hbb : b1 = false := by
    cases b1 with | false => rfl | true => (obtain ⟨m, hm, e⟩ := hb1.1 rfl; simp only [List.mem_cons, List.not_mem_nil, or_false] at hm; rcases hm with rfl | rfl | rfl <;> (simp [x1, x2, x4] at e))
  subst hbb
  have hold2 : ∀ b, b < w11.heap.size → tagC1 b = tOut := fun b hl => (hG b (by have := HSZC.out; omega)).1 (HOLD0.out b hl)
  have hk : ∀ b, b < w11.heap.size → w14.heap[b]? = w11.heap[b]? := fun b hl => (hO.block b (by have := HSZC.out; omega) fun h => h.1 (HOLD0.out b hl)).trans (HK13.out b hl)
  have HOLD1 := Lib.hid hold2
  have HK14 := Lib.hid hk
  have HSZC := Lib.hid (Nat.le_trans HSZC.out hO.size)
  clear h1 hth hO hG hold2 hk hb1
  go_wp2_with fail
  refine (all_any w14 H14.out.b.th (by decide)).mono ?_
  rintro e w15 ⟨v, rfl, hv, hb⟩
  rw [all3] at hv
  obtain ⟨UA, uc, rfl, -, -, -⟩ := hv.lists (by decide)
  have H15 := Lib.hid (H14.out.below hb)
  have hk : ∀ b, b < w11.heap.size → w15.heap[b]? = w11.heap[b]? := fun b hl => (hb.block b (by have := HSZC.out; omega)).trans (HK14.out b hl)
  have HK15 := Lib.hid hk
  have HSZC := Lib.hid (Nat.le_trans HSZC.out hb.size)
  clear hv hb hk
  go_wp2_with fail
  refine (of_any 3 w15 H15.out.b.th (by decide) (by omega)).mono ?_
  rintro e w16 ⟨rfl, hth, hO⟩
  rw [of3']
  have H16 := Lib.hid (H15.out.stay' hth hO)
  have hk : ∀ b, b < w11.heap.size → w16.heap[b]? = w11.heap[b]? := fun b hl => (hO.block b (by have := HSZC.out; omega) fun h => h.1 (HOLD1.out b hl)).trans (HK15.out b hl)
  have HK16 := Lib.hid hk
  have HSZC := Lib.hid (Nat.le_trans HSZC.out hO.size)
  have hv4 := HV3.out.block (w' := w16) fun b e => hk b (HV3.out.1.lt b e).2
  obtain ⟨GA2, gc2, e9, -, -, gI⟩ := hv4.ints
  injection e9 with e9 e7 e6
  subst e9
  obtain ⟨gad, e8, -, g0⟩ := gI.at_ (k := 0) (by decide)
  obtain ⟨gad2, e5, -, g2⟩ := gI.at_ (k := 2) (by decide)
  subst e8
  injection e5 with e5
  subst e5
  replace g0 : w16.cell? gad = some (.int .i64 1) := by have := g0; rwa [show gad.add 0 = gad by simp [Addr.add]] at this
  replace g2 : w16.cell? ⟨gad.block, gad.off + 2, none⟩ = some (.int .i64 3) := g2
  clear hth hO hk hv4 gI e7 e6
  go_wp2_with fail
  refine (all_any w16 H16.out.a.th (by decide)).mono ?_
  rintro e w17 ⟨v, rfl, hv, hb⟩
  rw [all4] at hv
  obtain ⟨VA, vc, rfl, -, -, -⟩ := hv.lists (by decide)
  have H17 := Lib.hid (H16.out.below hb)
  have hr := HR2.out.off (w' := w17) fun b _ hl => (hb.block b (by have := HSZC.out; omega)).trans (HK16.out b hl)
  obtain ⟨RA2, rc2, e9, -, -, rI⟩ := hr.lists (by decide)
  injection e9 with e9 e7 e6
  subst e9
  obtain ⟨rad, X0, y0, c0, e8, -, r0, -, rI0⟩ := rI.2 0 (by decide)
  obtain ⟨rad2, X1, y1, c1, e5, -, r1, -, rI1⟩ := rI.2 1 (by decide)
  subst e8
  injection e5 with e5
  subst e5
  have hy0 : y0 = 3 := rI0.len.symm
  have hy1 : y1 = 1 := rI1.len.symm
  subst hy0
  subst hy1
  replace r0 : w17.cell? rad = some (.slice X0 3 c0) := by have := r0; rwa [show rad.add 0 = rad by simp [Addr.add]] at this
  replace r1 : w17.cell? ⟨rad.block, rad.off + 1, none⟩ = some (.slice X1 1 c1) := r1
  clear hv hb hr rI rI0 rI1 e7 e6 g0 g2
  go_wp2
  go_ret
  exact ⟨rfl, H17.out.a.bel⟩
end Go.Proofs.Ytlobiebmaheflaa
