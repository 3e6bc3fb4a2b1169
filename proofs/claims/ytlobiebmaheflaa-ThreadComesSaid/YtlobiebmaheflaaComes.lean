/- ThreadComes: the walk. The law's arguments read as a list of operations and one message more. -/
import Derived.Test.YtlobiebmaheflaaComesQ
namespace Go.Proofs.Ytlobiebmaheflaa
open Go.RowKit
set_option linter.unusedVariables false

def ComesRel (w0 : World) (hd j : Nat) (wr : World) : Prop := ∃ L tag, One w0 wr tag hd L (900 * j) ∧ L.length ≤ j

theorem come_m {w W0 wr : World} {cs : Array Value} (e : w.alloc (.cells cs 34) = W0) (hb : Below W0.heap.size W0 wr) : wr.heap[w.heap.size]? = some (.cells cs 34 (0, 0)) := by
  subst e; rw [hb.block _ (by simp), (MapKept.heap_alloc w _).1]
theorem come_old {w W0 wr : World} {o : Obj} (e : w.alloc o = W0) (hb : Below W0.heap.size W0 wr) : Below w.heap.size w wr := by
  subst e
  exact ((Below.refl _ _).alloc (Nat.le_refl _) _).trans (hb.mono (by simp))
set_option maxRecDepth 100000 in
set_option maxHeartbeats 4000000 in
theorem comes_any (A : Option Addr) (n c : Nat) (l : List Deed) (m : Deed) (RM : Option Addr) (mn mc : Nat) (w : World) (h : Deeds w w.heap.size A n l) (hn : n ≤ c) (hc : c ≤ maxLen) (hmf : m.Fit) (hmr : RefsIn w w.heap.size RM mn mc m.refs) :
    Calls Try.prog 6 #[.slice A n c, .agg #[.int .i64 m.do_, .int .i64 m.id, .string m.own, .slice RM mn mc, .string m.base]] w (TellsPost w) := by
  obtain ⟨md, mi, mo, mr, mb⟩ := m
  have H := Lib.hid h
  have HN := Lib.hid h.1
  have HMF := Lib.hid hmf
  have HMR := Lib.hid hmr
  dsimp only at *
  clear h hmf hmr
  go_enter Try.func6, Try.ntmps6
  go_wp2_with fail
  refine (small_any _).mono ?_
  rintro e w1 ⟨rfl, hb1⟩
  have HB1 := Lib.hid hb1
  clear hb1
  go_wp2_with fail
  refine (new_any w1).mono ?_
  intro e w2 h2
  have h3 := come_base HB1.out h2
  have hO := h2.2.2
  have hbm : w2.heap[w.heap.size]? = some (.cells #[.int .i64 md, .int .i64 mi, .string mo, .slice RM mn mc, .string mb] 34 (0, 0)) := by
    have hs := HB1.out.size
    rw [hO.block w.heap.size (by simp at hs; omega) (fun h => h), HB1.out.block w.heap.size (by simp), (MapKept.heap_alloc w _).1]
  obtain ⟨rfl, -, -⟩ := h2
  obtain ⟨hd, hhd⟩ : ∃ x, w1.heap.size + 2 = x := ⟨_, rfl⟩
  rw [hhd] at h3 ⊢
  have m0 : w2.cell? ⟨w.heap.size, 0, none⟩ = some (.int .i64 md) := by simp [World.cell?, hbm]
  have m3 : w2.cell? ⟨w.heap.size, 3, none⟩ = some (.slice RM mn mc) := by simp [World.cell?, hbm]
  have f0 : w2.frozen? ⟨w.heap.size, 0, none⟩ = false := by simp [World.frozen?, hbm]
  obtain ⟨W0, hW0⟩ : ∃ x, w.alloc (.cells #[.int .i64 0, .int .i64 mi, .string mo, .slice RM mn mc, .string mb] 34) = x := ⟨_, rfl⟩
  rw [hW0] at h3
  have H3 := Lib.hid h3
  have HW0 := Lib.hid hW0
  clear h3 hO hbm hhd hW0
  --CONT
  go_wp2_with fail
  obtain ⟨w3, hw3⟩ : ∃ x, w2.setCell { block := w.heap.size, off := 0 } (Value.int IntKind.i64 0) = x := ⟨_, rfl⟩
  have H4 := Lib.hid (show One W0 w3 (newTag w1.heap.size) hd [] 0 by rw [← hw3]; exact H3.out)
  rw [hw3]
  clear hw3 H3 m0 m3 f0
  have HBEL := Lib.hid (come_old HW0.out H4.out.bel)
  refine (few_any A n c l w3 (deeds_more (w' := w3) (H.out.below HBEL.out) HBEL.out.size) hn hc).mono ?_
  rintro e w4 ⟨b, rfl, hfew, rfl⟩
  cases b with
  | false =>
    clear hfew
    go_wp2
    go_ret
    exact ⟨rfl, HBEL.out⟩
  | true =>
    have HFEW := Lib.hid (hfew rfl)
    clear hfew
    have hn40 : n ≤ 40 := by have := HFEW.out.1; rw [← HN.out] at this; exact this
    have hb := come_m HW0.out H4.out.bel
    have m3 : w3.cell? ⟨w.heap.size, 3, none⟩ = some (.slice RM mn mc) := by simp [World.cell?, hb]
    clear hb
    by_cases hm8 : 8 < mn
    · go_wp2
      go_ret
      exact ⟨rfl, HBEL.out⟩
    · have hm8' : mn ≤ 8 := by omega
      have HM8 := Lib.hid hm8
      have hd8 : decide (8 < (mn : Int)) = false := by simp; omega
      clear hm8
      go_wp2
      clear hd8 m3
      go_loopw [7] (fun i wr => ∃ j : Nat, j ≤ n ∧ i = .int .i64 (j : Int) ∧ Hid (ComesRel W0 hd j wr)) (fun i _ => n - (intOf i).toNat)
      case atStart => exact ⟨0, Nat.zero_le _, rfl, [], _, H4.out, Nat.le_refl _⟩
      case round =>
        obtain ⟨j, hj, rfl, hR⟩ := hrel
        obtain ⟨L, tag, hB, hLj⟩ := hR.out
        have HB := Lib.hid hB
        clear hR hB
        by_cases hjn : j < n
        · have hj2 : (j : Int) < n := by omega
          have hjl : j < l.length := by rw [← HN.out]; exact hjn
          have h8 := HFEW.out.2 _ (List.getElem_mem hjl)
          have HBW := Lib.hid (come_old HW0.out HB.out.bel)
          obtain ⟨ad, RA, rn, rc, rfl, hbl, hfit, d0, d1, d2, d3, d4, hr⟩ := (H.out.below HBW.out).2 j hjl
          obtain ⟨a, ha⟩ : ∃ a, l[j] = a := ⟨_, rfl⟩
          rw [ha] at hfit d0 d1 d2 d4 hr h8
          have HR := Lib.hid (hr.more HBW.out.size)
          have HFIT := Lib.hid hfit
          clear hr hfit hbl ha
          go_wp2_with fail
          refine (do_any a RA rn rc wr HB.out.th HFIT.out HR.out h8 (by omega) (by omega)).mono ?_
          rintro e w5 ⟨rfl, tag5, hth, hO, hG⟩
          have HB5 := Lib.hid (HB.out.turn hth hO hG)
          have hMl : (stepL L a).length ≤ j + 1 := by have := stepL_le L a; omega
          clear hth hO hG d0 d1 d2 d3 d4 HR
          go_wp2
          go_roundw
          case rel =>
            refine ⟨j + 1, by omega, by go_num, stepL L a, tag5, ?_, hMl⟩
            rw [show 900 * (j + 1) = 900 * j + 900 by omega]; exact HB5.out
          case measure => simp [intOf] <;> omega
        · obtain rfl : j = n := by omega
          have hL40 : L.length ≤ 40 := by omega
          go_wp2_with fail
          refine (all_any wr HB.out.th (by omega)).mono ?_
          rintro e w6 ⟨va, rfl, hva, hb6⟩
          have HB6 := Lib.hid (HB.out.below hb6)
          have HWAS := Lib.hid (hva.rowsIn fun g hg e => by obtain ⟨x, r, e2⟩ := all_cons HB.out.th.asc hg; rw [e] at e2; cases e2)
          have HFR := Lib.hid (show ∀ b, wr.heap.size ≤ b → tag b = tOut from HB.out.th.fresh)
          clear hva hb6
          go_wp2_with fail
          refine (copy_any w6 HB6.out.th (by omega)).mono ?_
          rintro e w7 ⟨hdC, tagC, rfl, hthC, holdC, hb7⟩
          have HS7 := Lib.hid (show CState W0 w7 tag hd L (900 * j) tagC hdC L (10 * L.length) wr.heap.size w6.heap.size va from
            ⟨HB6.out.copied hthC holdC hb7, HWAS.out.keep fun b _ hl => hb7.block b hl, hb7.size, fun b h1 _ => HFR.out b h1⟩)
          obtain ⟨wo0, hwo0⟩ : ∃ x, wr.heap.size = x := ⟨_, rfl⟩
          obtain ⟨wo1, hwo1⟩ : ∃ x, w6.heap.size = x := ⟨_, rfl⟩
          rw [hwo0, hwo1] at HS7
          clear hthC holdC hb7 HWAS HFR hwo0 hwo1
          have hb := come_m HW0.out HS7.out.pair.a.bel
          have m0 : w7.cell? ⟨w.heap.size, 0, none⟩ = some (.int .i64 0) := by simp [World.cell?, hb]
          have m1 : w7.cell? ⟨w.heap.size, 1, none⟩ = some (.int .i64 mi) := by simp [World.cell?, hb]
          have m2 : w7.cell? ⟨w.heap.size, 2, none⟩ = some (.string mo) := by simp [World.cell?, hb]
          have m3 : w7.cell? ⟨w.heap.size, 3, none⟩ = some (.slice RM mn mc) := by simp [World.cell?, hb]
          have m4 : w7.cell? ⟨w.heap.size, 4, none⟩ = some (.string mb) := by simp [World.cell?, hb]
          clear hb
          --CONT2
          go_wp2_with fail
          refine (do_any ⟨0, mi, mo, mr, mb⟩ RM mn mc w7 HS7.out.pair.a.th ⟨(⟨by decide, by decide⟩ : I64 0), HMF.out.2⟩ ((HMR.out.below (come_old HW0.out HS7.out.pair.a.bel)).more (come_old HW0.out HS7.out.pair.a.bel).size) (by rw [← HMR.out.1.1]; exact hm8') (by omega) (by omega)).mono ?_
          rintro e w8 ⟨rfl, tag8, hth, hO, hG⟩
          have HS8 := Lib.hid (HS7.out.turn hth hO hG)
          obtain ⟨er, her⟩ : ∃ x, stepErr L ⟨0, mi, mo, mr, mb⟩ = x := ⟨_, rfl⟩
          obtain ⟨ok, hok⟩ : ∃ x, stepOk L ⟨0, mi, mo, mr, mb⟩ = x := ⟨_, rfl⟩
          obtain ⟨L2, hL2⟩ : ∃ x, stepL L ⟨0, mi, mo, mr, mb⟩ = x := ⟨_, rfl⟩
          have hL2l : L2.length ≤ 41 := by have := stepL_le L ⟨0, mi, mo, mr, mb⟩; rw [hL2] at this; omega
          rw [hL2] at HS8
          rw [her, hok]
          have hL2e : L2 = addL L ⟨mi, idsOf mo mr, mb⟩ := by rw [← hL2]; unfold stepL; rw [if_neg (by simp)]
          have here : addErr L mi = er := by rw [← her]; unfold stepErr; rw [if_neg (by simp)]
          have HL2 := Lib.hid hL2e
          have HER := Lib.hid here
          clear hth hO hG hL2 her hok hL2e here m0 m1 m2 m3 m4 HS7 HB6 HB
          by_cases he : er = 0
          · have hd1 : (er != 0) = false := by simpa using he
            have HE := Lib.hid he
            clear he
            have hb := come_m HW0.out HS8.out.pair.a.bel
            go_wp2_with fail
            refine (all_any w8 HS8.out.pair.a.th (by omega)).mono ?_
            rintro e w9 ⟨vn, rfl, hvn, hb9⟩
            have HS9 := Lib.hid (HS8.out.below hb9)
            have HNR := Lib.hid (hvn.rowsIn fun g hg e => by obtain ⟨x, r, e2⟩ := all_cons HS8.out.pair.a.th.asc hg; rw [e] at e2; cases e2)
            have hal := allOf_le L2
            have hae : ∀ l, l ∈ allOf L2 → l.length ≤ 1000000 := fun l hl => by have := allOf_each hl; omega
            obtain ⟨NA, nc, rfl, hnc1, hnc2, nI⟩ := hvn.lists hae
            have HNI := Lib.hid nI
            obtain ⟨nn, hnn⟩ : ∃ x, (allOf L2).length = x := ⟨_, rfl⟩
            rw [hnn] at HNI hal hnc1 ⊢
            have HNN := Lib.hid hnn
            clear hvn hb9 hae nI hnn hd1
            have hb := come_m HW0.out HS9.out.pair.a.bel
            have m1 : w9.cell? ⟨w.heap.size, 1, none⟩ = some (.int .i64 mi) := by simp [World.cell?, hb]
            clear hb
            go_wp2_with fail
            refine (group_any mi w9 HS9.out.pair.a.th (by omega) HMF.out.2.1).mono ?_
            rintro e w10 ⟨vg, rfl, hvg, hth, hO⟩
            --CONT3
            have HS10 := Lib.hid (HS9.out.stay hth hO)
            obtain ⟨GA, gc, rfl, hgc1, hgc2, gI⟩ := hvg.ints
            have hgl := groupOf_le L2 mi
            have hcome : Come L L2 ⟨mi, idsOf mo mr, mb⟩ := by
              obtain ⟨hp, hne⟩ := err0.1 (HER.out.trans HE.out)
              have e2 : L2 = ins ⟨mi, idsOf mo mr, mb⟩ L := by rw [HL2.out]; unfold addL; rw [if_pos (HER.out.trans HE.out)]
              rw [e2]
              exact Come.ins HS10.out.pair.b.th.asc hne
            have HDEL := Lib.hid (show del mi L2 = L by
              have e2 : L2 = ins ⟨mi, idsOf mo mr, mb⟩ L := by rw [HL2.out]; unfold addL; rw [if_pos (HER.out.trans HE.out)]
              rw [e2]
              exact del_ins (m := ⟨mi, idsOf mo mr, mb⟩) HS10.out.pair.b.th.asc hcome.new)
            have HCOME := Lib.hid hcome
            have hin := hcome.in_eq
            have hout := hcome.out_eq
            dsimp only at hin hout
            obtain ⟨gL, hgL⟩ : ∃ x, groupOf L2 mi = x := ⟨_, rfl⟩
            have HGL := Lib.hid hgL
            rw [hgL] at gI hgl hgc1 hin ⊢
            obtain ⟨gn, hgn⟩ : ∃ x, gL.length = x := ⟨_, rfl⟩
            rw [hgn] at gI hgl hgc1 hin ⊢
            have HIN := Lib.hid hin
            have HOUT := Lib.hid hout
            have HGI := Lib.hid gI
            have HNI10 := Lib.hid (HNR.out.keep (w' := w10) fun b h1 hl => hO.block b hl fun hm => hm.1 (HS8.out.pair.a.th.fresh b h1))
            obtain ⟨WA, wc, rfl, hwc1, hwc2, -⟩ := HS10.out.was
            have hal0 := allOf_le L
            have HFL := Lib.hid (all_flat HS10.out.pair.b.th.asc)
            obtain ⟨an, han⟩ : ∃ x, (allOf L).length = x := ⟨_, rfl⟩
            rw [han] at HS10 HS9 HS8 hwc1 hal0 ⊢
            have HAN := Lib.hid han
            have HNL := Lib.hid (show Lists w10 NA nn (allOf L2) from by
              obtain ⟨A', c', e, -, -, h⟩ := HNI10.out.lists hO.size (fun l hl => by have := allOf_each hl; omega) (fun l hl y hy => elem_bounds HS8.out.pair.a.th.asc (th_ids HS8.out.pair.a.th) hl hy)
              injection e with e1 e2 e3
              subst e1
              rw [HNN.out] at h
              exact h)
            clear hvg hth hO gI hgL hgn hcome hin hout m1 han HS9 HS8 HNI10 HNR HNI
            go_wp2
            go_loopw [14, 15, 16] (fun a b i wr => ∃ q : Nat, q ≤ an ∧ i = .int .i64 (q : Int) ∧ a = .int .i64 ((inSum L2 mi ((allOf L).take q) : Nat) : Int) ∧ b = .int .i64 ((outSum L2 mi ((allOf L).take q) : Nat) : Int) ∧ Hid (CState W0 wr tag8 hd L2 (900 * j + 900) tagC hdC L (10 * L.length) wo0 wo1 (.slice WA an wc)) ∧ Hid (Lists wr NA nn (allOf L2)) ∧ Hid (Ints wr wr.heap.size GA gn gL)) (fun _ _ i _ => an - (intOf i).toNat)
            case atStart => exact ⟨0, Nat.zero_le _, rfl, rfl, rfl, HS10.out, HNL.out, HGI.out⟩
            case round =>
              obtain ⟨q, hq, rfl, rfl, rfl, HSR, HNR, HGR⟩ := hrel
              by_cases hqn : q < an
              · have hq2 : (q : Int) < an := by omega
                have hql : q < (allOf L).length := by rw [HAN.out]; exact hqn
                have hst := sum_take L2 mi hql
                have hb1 := inSum_le L2 mi ((allOf L).take q)
                have hb2 := take_flat (allOf L) q
                have hb3 := HFL.out
                have hb4 := outSum_le L2 mi ((allOf L).take q)
                rw [List.length_take] at hb4
                obtain ⟨WA2, wc2, ev, -, -, hcells⟩ := HSR.out.was
                obtain ⟨g, gx, xc, ega, c0, hx3, hx4, hg1, hg2, hg3, hg4, hct⟩ := hcells q hql
                injection ev with ev en ec
                subst ev
                subst ec
                clear en
                subst ega
                obtain ⟨gl0, hgl0⟩ : ∃ g, (allOf L)[q] = g := ⟨_, rfl⟩
                have hgm : gl0 ∈ allOf L := by rw [← hgl0]; exact List.getElem_mem hql
                have hge := allOf_each hgm
                obtain ⟨h0, r0, hcons⟩ := all_cons HSR.out.pair.b.th.asc hgm
                have c0' : wr.cell? ⟨g, q, none⟩ = some (.slice (some ⟨gx, 0, none⟩) gl0.length xc) := by rw [← hgl0]; exact c0
                have c1 : wr.cell? ⟨gx, 0, none⟩ = some (.int .i64 h0) := by
                  have h7 := hct 0 (by rw [hgl0, hcons]; simp)
                  have h6 : (allOf L)[q][0]'(by rw [hgl0, hcons]; simp) = h0 := by simp only [hgl0, hcons, List.getElem_cons_zero]
                  rw [h6] at h7; exact h7
                have HGI0 := Lib.hid (show Ints wr wr.heap.size (some ⟨gx, 0, none⟩) gl0.length gl0 from
                  ⟨rfl, fun y hy => elem_bounds HSR.out.pair.b.th.asc (th_ids HSR.out.pair.b.th) hgm hy, .inr ⟨_, rfl, Nat.lt_of_lt_of_le hg4 HSR.out.inn, fun t u hu => by
                    have ht : t < gl0.length := by
                      have := (List.getElem?_eq_some_iff.1 hu).1
                      simpa [iv] using this
                    have eu : u = .int .i64 gl0[t] := by simp [iv, ht] at hu; exact hu.symm
                    rw [eu]
                    have h7 := hct t (by rw [hgl0]; exact ht)
                    simp only [hgl0] at h7
                    by_cases e0 : t = 0
                    · subst e0; simpa [Addr.add] using h7
                    · simpa [Addr.add, e0] using h7⟩⟩)
                have hpos : 0 < gl0.length := by rw [hcons]; simp
                have hjo : joins L2 mi gl0 = decide (h0 ∈ gL) := by unfold joins; rw [hcons, HGL.out]; rfl
                rw [hgl0] at hst
                clear c0 hct hcells hx3 hg1 hg2 hg3 hg4
                obtain ⟨gl, hgl1⟩ : ∃ x, gl0.length = x := ⟨_, rfl⟩
                rw [hgl1] at c0' hge hpos hst HGI0
                have HGL1 := Lib.hid hgl1
                have HCONS := Lib.hid hcons
                have HGM := Lib.hid hgm
                have HJO := Lib.hid hjo
                have HST := Lib.hid hst
                obtain ⟨s1, hs1⟩ : ∃ x, inSum L2 mi ((allOf L).take q) = x := ⟨_, rfl⟩
                obtain ⟨s2, hs2⟩ : ∃ x, outSum L2 mi ((allOf L).take q) = x := ⟨_, rfl⟩
                rw [hs1] at hb1 ⊢
                rw [hs2] at hb4 ⊢
                have HS1 := Lib.hid hs1
                have HS2 := Lib.hid hs2
                have hs1b : s1 ≤ 40 := by omega
                have hs2b : s2 ≤ 40 := by omega
                have hd0 : ((gl : Int) == 0) = false := by simp; omega
                have hpos2 : (0 : Int) < gl := by omega
                clear hgl0 hgm hcons hjo hst hgl1 hs1 hs2 hb1 hb2 hb3 hb4
                go_wp2_with fail
                refine (holds_any GA gn gc gL h0 wr HGR.out (by omega)).mono ?_
                rintro e w' ⟨rfl, rfl⟩
                by_cases hj : joins L2 mi gl0 = true
                · have hd : decide (h0 ∈ gL) = true := by rw [← HJO.out]; exact hj
                  have HJ := Lib.hid hj
                  rw [hd]
                  clear hj hd
                  go_wp2
                  go_roundw
                  case rel =>
                    refine ⟨q + 1, by omega, by go_num, ?_, ?_, HSR.out, HNR.out, HGR.out⟩
                    · rw [HST.out.1, if_pos HJ.out, HS1.out]; go_num
                    · rw [HST.out.2, if_pos HJ.out, HS2.out]; go_num
                  case measure => simp [intOf] <;> omega
                · have hj' : joins L2 mi gl0 = false := by simpa using hj
                  have hd : decide (h0 ∈ gL) = false := by rw [← HJO.out]; exact hj'
                  have HJ := Lib.hid hj'
                  rw [hd]
                  clear hj hj' hd
                  go_wp2_with fail
                  refine (has_row NA (some ⟨gx, 0, none⟩) nn nc gl xc (allOf L2) gl0 wr HNR.out HGI0.out (by omega) hnc1 hnc2 (by omega)).mono ?_
                  rintro e w' ⟨rfl, hb⟩
                  rw [decide_eq_true (HCOME.out.apart HGM.out HJ.out).1]
                  have HB := Lib.hid hb
                  clear hb
                  go_wp2
                  go_roundw
                  case rel =>
                    refine ⟨q + 1, by omega, by go_num, ?_, ?_, HSR.out.below HB.out, HNR.out.below HB.out, (HGR.out.below HB.out).more HB.out.size⟩
                    · rw [HST.out.1, if_neg (by rw [HJ.out]; simp), HS1.out]; go_num
                    · rw [HST.out.2, if_neg (by rw [HJ.out]; simp), HS2.out]; go_num
                  case measure => simp [intOf] <;> omega
              · obtain rfl : q = an := by omega
                have hfull : (allOf L).take q = allOf L := List.take_of_length_le (by rw [HAN.out]; exact Nat.le_refl _)
                rw [hfull]
                --CONT4
                have hin := HIN.out
                have hout := HOUT.out
                rw [HNN.out] at hout
                obtain ⟨s1, hs1⟩ : ∃ x, inSum L2 mi (allOf L) = x := ⟨_, rfl⟩
                obtain ⟨s2, hs2⟩ : ∃ x, outSum L2 mi (allOf L) = x := ⟨_, rfl⟩
                rw [hs1] at hin ⊢
                rw [hs2] at hout ⊢
                have hs1b : s1 ≤ 41 := by omega
                have hs2b : s2 ≤ 41 := by omega
                have hd1 : ((gn : Int) != (s1 : Int) + 1) = false := by simp; omega
                have hd2 : ((nn : Int) != (s2 : Int) + 1) = false := by simp; omega
                clear hin hout hs1 hs2 hfull
                go_wp2_with fail
                refine (all_any wr HSR.out.pair.b.th (by omega)).mono ?_
                rintro e w11 ⟨vc, rfl, hvc, hb11⟩
                have HS11 := Lib.hid (HSR.out.below hb11)
                have hae : ∀ l, l ∈ allOf L → l.length ≤ 1000000 := fun l hl => by have := allOf_each hl; omega
                obtain ⟨CA, cc, rfl, -, -, cI⟩ := hvc.lists hae
                obtain ⟨WA2, wc2, ev, -, -, wI⟩ := HS11.out.was.lists HS11.out.inn hae (fun l hl y hy => elem_bounds HS11.out.pair.b.th.asc (th_ids HS11.out.pair.b.th) hl hy)
                injection ev with ev en ec
                subst ev
                subst ec
                clear en
                rw [HAN.out] at cI wI ⊢
                have HCI := Lib.hid cI
                have HWI := Lib.hid wI
                clear hvc hb11 cI wI hd1 hd2
                go_wp2_with fail
                refine (same_any _ _ q q _ _ (allOf L) (allOf L) _ HCI.out HWI.out (by omega)).mono ?_
                rintro e w12 ⟨rfl, nd2, hw12⟩
                rw [decide_eq_true rfl]
                have h12 : Below w11.heap.size w11 w12 := by subst hw12; exact ⟨rfl, rfl, rfl, Nat.le_refl _, fun _ _ => rfl⟩
                have HS12 := Lib.hid (HS11.out.below h12)
                have hb := come_m HW0.out HS12.out.pair.a.bel
                have m1 : w12.cell? ⟨w.heap.size, 1, none⟩ = some (.int .i64 mi) := by simp [World.cell?, hb]
                clear hw12 h12 hb HCI HWI
                go_wp2_with fail
                refine (drop_any mi w12 HS12.out.pair.a.th (by omega) HMF.out.2.1 (by omega)).mono ?_
                rintro e w13 ⟨bd, rfl, hbd, tag13, hth, hO, hG⟩
                obtain rfl : bd = true := hbd.2 ⟨_, HCOME.out.here, rfl⟩
                rw [HDEL.out] at hth
                have HS13 := Lib.hid (HS12.out.turn hth hO hG)
                clear hbd hth hO hG m1
                go_wp2_with fail
                refine (all_any w13 HS13.out.pair.a.th (by omega)).mono ?_
                rintro e w14 ⟨vc, rfl, hvc, hb14⟩
                have HS14 := Lib.hid (HS13.out.below hb14)
                obtain ⟨CA2, cc2, rfl, -, -, cI⟩ := hvc.lists hae
                obtain ⟨WA2, wc2, ev, -, -, wI⟩ := HS14.out.was.lists HS14.out.inn hae (fun l hl y hy => elem_bounds HS14.out.pair.b.th.asc (th_ids HS14.out.pair.b.th) hl hy)
                injection ev with ev en ec
                subst ev
                subst ec
                clear en
                rw [HAN.out] at cI wI ⊢
                have HCI := Lib.hid cI
                have HWI := Lib.hid wI
                clear hvc hb14 cI wI hae
                go_wp2_with fail
                refine (same_any _ _ q q _ _ (allOf L) (allOf L) _ HCI.out HWI.out (by omega)).mono ?_
                rintro e w15 ⟨rfl, nd3, hw15⟩
                rw [decide_eq_true rfl]
                have h15 : Below w14.heap.size w14 w15 := by subst hw15; exact ⟨rfl, rfl, rfl, Nat.le_refl _, fun _ _ => rfl⟩
                have HB15 := Lib.hid (come_old HW0.out (HS14.out.below h15).pair.a.bel)
                clear hw15 h15
                go_wp2
                go_ret
                exact ⟨rfl, HB15.out⟩
          · have hd1 : (er != 0) = true := by simpa using he
            have HE := Lib.hid he
            have HSAME := Lib.hid (show L2 = L by rw [HL2.out]; unfold addL; rw [if_neg (by rw [HER.out]; exact he)])
            clear he
            go_wp2_with fail
            refine (all_any w8 HS8.out.pair.a.th (by omega)).mono ?_
            rintro e w9 ⟨vn, rfl, hvn, hb9⟩
            have HS9 := Lib.hid (HS8.out.below hb9)
            have hal := allOf_le L2
            have hae : ∀ l, l ∈ allOf L2 → l.length ≤ 1000000 := fun l hl => by have := allOf_each hl; omega
            obtain ⟨NA, nc, rfl, hnc1, hnc2, nI⟩ := hvn.lists hae
            rw [HSAME.out] at nI hal ⊢
            have HNI := Lib.hid nI
            obtain ⟨WA, wc, rfl, hwc1, hwc2, wI⟩ := HS9.out.was.lists HS9.out.inn (fun l hl => by have := allOf_each hl; omega) (fun l hl y hy => elem_bounds HS9.out.pair.b.th.asc (th_ids HS9.out.pair.b.th) hl hy)
            have HWI := Lib.hid wI
            obtain ⟨nn, hnn⟩ : ∃ x, (allOf L).length = x := ⟨_, rfl⟩
            rw [hnn] at HNI HWI hal ⊢
            have HNN := Lib.hid hnn
            clear hvn hb9 hae nI wI hnn hd1 hnc1 hnc2 hwc1 hwc2
            go_wp2_with fail
            refine (same_any _ _ nn nn _ _ (allOf L) (allOf L) _ HNI.out HWI.out (by omega)).mono ?_
            rintro e w16 ⟨rfl, nd2, hw16⟩
            rw [decide_eq_true rfl]
            have h16 : Below w9.heap.size w9 w16 := by subst hw16; exact ⟨rfl, rfl, rfl, Nat.le_refl _, fun _ _ => rfl⟩
            have HB16 := Lib.hid ((come_old HW0.out HS9.out.pair.a.bel).trans (h16.mono (come_old HW0.out HS9.out.pair.a.bel).size))
            clear hw16 h16
            go_wp2
            go_ret
            exact ⟨rfl, HB16.out⟩
end Go.Proofs.Ytlobiebmaheflaa
