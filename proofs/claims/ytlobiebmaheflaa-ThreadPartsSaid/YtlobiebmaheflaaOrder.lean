/- ThreadOrder: the walk. The law's argument reads as a list of operations. -/
import Derived.Test.YtlobiebmaheflaaThere
namespace Go.Proofs.Ytlobiebmaheflaa
open Go.RowKit
set_option linter.unusedVariables false

/-- The state at the head of the first loop. -/
def OrderRel (w : World) (hdT hdU j : Nat) (v : Value) (wr : World) : Prop :=
  ∃ L ps tag tagU, Pair w wr tag hdT L (900 * j) tagU hdU [] 0 ∧ L.length ≤ j ∧ There w wr w.heap.size v ps ∧ ps.length ≤ j ∧ (∀ b, v.ownBlock = some b → tag b = tOut ∧ tagU b = tOut) ∧ Match (ps.map (·.1)) L
/-- The state at the head of the last loop. -/
def UndoRel (w : World) (hdT hdU : Nat) (L : List Msg) (c m : Nat) (tag : Nat → Tag) (v : Value) (ps : List (Deed × Value)) (k : Nat) (wr : World) : Prop :=
  ∃ L' tagU, Pair w wr tag hdT L c tagU hdU L' (900 * (m - k)) ∧ L'.length ≤ m - k ∧ There w wr w.heap.size v ps ∧ (∀ b, v.ownBlock = some b → tag b = tOut ∧ tagU b = tOut) ∧ Match ((ps.drop k).map (·.1)) L'
theorem deeds_more {w w' : World} {B B' n : Nat} {A : Option Addr} {l : List Deed} (h : Deeds w B A n l) (hB : B ≤ B') : Deeds w B' A n l :=
  ⟨h.1, fun k hk => by obtain ⟨ad, RA, rn, rc, e, h1, h2, h3, h4, h5, h6, h7, h8⟩ := h.2 k hk; exact ⟨ad, RA, rn, rc, e, Nat.lt_of_lt_of_le h1 hB, h2, h3, h4, h5, h6, h7, h8.more hB⟩⟩
theorem map_fst_filter (f : Deed → Bool) (ps : List (Deed × Value)) : (ps.filter fun p => f p.1).map (·.1) = (ps.map (·.1)).filter f := by
  induction ps with
  | nil => rfl
  | cons p r ih => simp only [List.filter_cons, List.map_cons]; split <;> simp [ih]

set_option maxRecDepth 100000 in
set_option maxHeartbeats 4000000 in
theorem order_any (A : Option Addr) (n c : Nat) (l : List Deed) (w : World) (h : Deeds w w.heap.size A n l) (hn : n ≤ c) (hc : c ≤ maxLen) :
    Calls Try.prog 4 #[.slice A n c] w (TellsPost w) := by
  have H := Lib.hid h
  have HN := Lib.hid h.1
  clear h
  go_enter Try.func4, Try.ntmps4
  go_wp2_with fail
  refine (small_any w).mono ?_
  rintro e w1 ⟨rfl, hb1⟩
  have HB1 := Lib.hid hb1
  clear hb1
  go_wp2_with fail
  refine (new_any w1).mono ?_
  intro e w2 h2
  have h2' := One.new HB1.out h2
  obtain ⟨rfl, -, -⟩ := h2
  obtain ⟨hd, hhd⟩ : ∃ x, w1.heap.size + 2 = x := ⟨_, rfl⟩
  rw [hhd] at h2' ⊢
  have H2 := Lib.hid h2'
  clear h2' hhd
  go_wp2_with fail
  refine (new_any w2).mono ?_
  intro e w3 h3
  have h3' := One.new' H2.out h3
  obtain ⟨rfl, -, -⟩ := h3
  obtain ⟨hu, hhu⟩ : ∃ x, w2.heap.size + 2 = x := ⟨_, rfl⟩
  rw [hhu] at h3' ⊢
  have H3 := Lib.hid h3'
  have HBEL := Lib.hid h3'.a.bel
  clear h3' hhu
  go_wp2_with fail
  refine (few_any A n c l w3 (deeds_more (w' := w3) (H.out.below HBEL.out) HBEL.out.size) hn hc).mono ?_
  rintro e w4 ⟨b, rfl, hfew, rfl⟩
  cases b with
  | false =>
    clear hfew
    go_wp2
    go_ret
    exact ⟨rfl, HBEL.out⟩
  | true =>
    have HFEW := Lib.hid (hfew rfl)
    clear hfew
    have hn40 : n ≤ 40 := by have := HFEW.out.1; rw [← HN.out] at this; exact this
    go_wp2
    go_loopw [6, 7] (fun v i wr => ∃ j : Nat, j ≤ n ∧ i = .int .i64 (j : Int) ∧ Hid (OrderRel w hd hu j v wr)) (fun _ i _ => n - (intOf i).toNat)
    case atStart => exact ⟨0, Nat.zero_le _, rfl, [], [], _, _, H3.out, Nat.le_refl _, There.nil_ _ _ _, Nat.le_refl _, (fun b e => by cases e), Match.nil_⟩
    case round =>
      obtain ⟨j, hj, rfl, hR⟩ := hrel
      obtain ⟨L, ps, tag, tagU, hB, hLj, hT, hpj, hvb, hM⟩ := hR.out
      obtain ⟨VA, vcap, rfl, hv1, hv2, hvc⟩ := hT.at_
      obtain ⟨pn, hpn⟩ : ∃ x, ps.length = x := ⟨_, rfl⟩
      rw [hpn] at hT hpj hv1 hvb ⊢
      have HB := Lib.hid hB
      have HT := Lib.hid hT
      have HVB := Lib.hid hvb
      have HM := Lib.hid hM
      have HPN := Lib.hid hpn
      have HVC := Lib.hid hvc
      clear hR hB hT hvb hM hpn hvc
      by_cases hjn : j < n
      · have hj2 : (j : Int) < n := by omega
        have hjl : j < l.length := by rw [← HN.out]; exact hjn
        have h8 := HFEW.out.2 _ (List.getElem_mem hjl)
        obtain ⟨ad, RA, rn, rc, rfl, hbl, hfit, d0, d1, d2, d3, d4, hr⟩ := (H.out.below HB.out.a.bel).2 j hjl
        have hrw := (H.out.2 j hjl)
        obtain ⟨a, ha⟩ : ∃ a, l[j] = a := ⟨_, rfl⟩
        rw [ha] at hfit d0 d1 d2 d4 hr h8
        have HR0 := Lib.hid hr
        have HR := Lib.hid (hr.more HB.out.a.bel.size)
        have HFIT := Lib.hid hfit
        have HBL := Lib.hid hbl
        have HC0 := Lib.hid (And.intro d0 (And.intro d1 (And.intro d2 (And.intro d3 d4))))
        have hkd : KeptDeed w (a, .slice RA rn rc) := by
          obtain ⟨ad', RA', rn', rc', e, q1, q2, q3, q4, q5, q6, q7, q8⟩ := hrw
          rw [ha] at q2 q8
          obtain rfl := Option.some.inj e
          have q9 : w.cell? ⟨(ad.add (j * 5)).block, (ad.add (j * 5)).off + 3, none⟩ = wr.cell? ⟨(ad.add (j * 5)).block, (ad.add (j * 5)).off + 3, none⟩ := (HB.out.a.bel.cell (p := ⟨(ad.add (j * 5)).block, (ad.add (j * 5)).off + 3, none⟩) q1).symm
          rw [q9, d3] at q6
          injection q6 with q6
          injection q6 with q6 q7' q8'
          subst q6; subst q7'; subst q8'
          exact ⟨q2, h8, _, _, _, rfl, q8⟩
        have HKD := Lib.hid hkd
        clear hr hfit hbl ha hrw hkd
        go_wp2_with fail
        refine (do_any a RA rn rc wr HB.out.a.th HFIT.out HR.out h8 (by omega) (by omega)).mono ?_
        rintro e w5 ⟨rfl, tag5, hth, hO, hG⟩
        have hB5 := HB.out.turn hth hO hG
        have HB5 := Lib.hid hB5
        have hold : ∀ p : Addr, p.block < w.heap.size → w5.cell? p = wr.cell? p := fun p hp => (HB5.out.a.bel.cell hp).trans (HB.out.a.bel.cell hp).symm
        have d0 := (hold _ HBL.out).trans HC0.out.1
        have d1 := (hold ⟨(ad.add (j * 5)).block, (ad.add (j * 5)).off + 1, none⟩ HBL.out).trans HC0.out.2.1
        have d2 := (hold ⟨(ad.add (j * 5)).block, (ad.add (j * 5)).off + 2, none⟩ HBL.out).trans HC0.out.2.2.1
        have d3 := (hold ⟨(ad.add (j * 5)).block, (ad.add (j * 5)).off + 3, none⟩ HBL.out).trans HC0.out.2.2.2.1
        have d4 := (hold ⟨(ad.add (j * 5)).block, (ad.add (j * 5)).off + 4, none⟩ HBL.out).trans HC0.out.2.2.2.2
        have HT5 := Lib.hid (HT.out.block (w' := w5) fun b e => hO.block b (HT.out.row.lt b e).2 fun h => h.1 (HVB.out b e).1)
        have HVB5 := Lib.hid (show ∀ b, (Value.slice VA pn vcap).ownBlock = some b → tag5 b = tOut ∧ tagU b = tOut from fun b e => ⟨(hG b (HT.out.row.lt b e).2).1 (HVB.out b e).1, (HVB.out b e).2⟩)
        obtain ⟨er, her⟩ : ∃ x, stepErr L a = x := ⟨_, rfl⟩
        obtain ⟨ok, hok⟩ : ∃ x, stepOk L a = x := ⟨_, rfl⟩
        rw [her, hok]
        have HER := Lib.hid her
        have HOK := Lib.hid hok
        have hMl : (stepL L a).length ≤ j + 1 := by have := stepL_le L a; omega
        have hs5 := HB5.out.a.bel.size
        clear hth hO hG hold hB5 her hok HC0 HR HR0
        by_cases h1 : a.do_ = 1
        · have hd1 : (a.do_ != 1) = false := by simpa using h1
          have HD := Lib.hid h1
          clear h1
          go_wp2
          go_loopw [10, 11] (fun rv k wr' => ∃ q : Nat, q ≤ pn ∧ k = .int .i64 (q : Int) ∧ Hid (There w wr' w5.heap.size rv ((ps.take q).filter fun p => p.1.id != a.id)) ∧ Hid (Below w5.heap.size w5 wr')) (fun _ k _ => pn - (intOf k).toNat)
          case atStart => exact ⟨0, Nat.zero_le _, rfl, by show There _ _ _ _ _; rw [List.take_zero]; exact There.nil_ _ _ _, Below.refl _ _⟩
          case round =>
            obtain ⟨q, hq, rfl, hTr, hBr⟩ := hrel
            obtain ⟨QA, qcap, rfl, hq1, hq2, -⟩ := hTr.out.at_
            obtain ⟨rl, hrl⟩ : ∃ x, ((ps.take q).filter fun p => p.1.id != a.id).length = x := ⟨_, rfl⟩
            have HRL := Lib.hid hrl
            have hrl2 : rl ≤ q := by rw [← hrl]; exact Nat.le_trans (List.length_filter_le _ _) (by rw [List.length_take]; omega)
            rw [hrl] at hTr hq1 ⊢
            clear hrl
            have hs5r := hBr.out.size
            by_cases hqn : q < pn
            · have hq2 : (q : Int) < pn := by omega
              have hql : q < ps.length := by rw [HPN.out]; exact hqn
              obtain ⟨VA2, vcap2, ev, -, -, hvc2⟩ := HT5.out.at_
              obtain ⟨g, ega, -, hgl, t0, t1, t2, t3, t4⟩ := hvc2 q hql
              injection ev with ev en ec
              subst ev
              subst ec
              clear en
              subst ega
              obtain ⟨⟨pd, pv⟩, hpq⟩ : ∃ p, ps[q] = p := ⟨_, rfl⟩
              rw [hpq] at t0 t1 t2 t3 t4
              have t0 := (hBr.out.cell (p := ⟨g, q * 5, none⟩) hgl).trans t0
              have t1 := (hBr.out.cell (p := ⟨g, q * 5 + 1, none⟩) hgl).trans t1
              have t2 := (hBr.out.cell (p := ⟨g, q * 5 + 2, none⟩) hgl).trans t2
              have t3 := (hBr.out.cell (p := ⟨g, q * 5 + 3, none⟩) hgl).trans t3
              have t4 := (hBr.out.cell (p := ⟨g, q * 5 + 4, none⟩) hgl).trans t4
              have HKP := Lib.hid (HT5.out.each _ (List.getElem_mem hql))
              rw [hpq] at HKP
              obtain ⟨PA, pn2, pc2, epv, hpr⟩ := HKP.out.2.2
              dsimp only at epv t0 t1 t2 t3 t4
              subst epv
              have hadl : (ad.add (j * 5)).block < w5.heap.size := Nat.lt_of_lt_of_le HBL.out hs5
              have e1 := (hBr.out.cell (p := ⟨(ad.add (j * 5)).block, (ad.add (j * 5)).off + 1, none⟩) hadl).trans d1
              obtain ⟨y, hy⟩ : ∃ y, pd.id = y := ⟨_, rfl⟩
              have HY := Lib.hid hy
              have HPQ := Lib.hid hpq
              have HADL := Lib.hid hadl
              have HSTEP := Lib.hid (show (ps.take (q + 1)).filter (fun p => p.1.id != a.id) = (ps.take q).filter (fun p => p.1.id != a.id) ++ (if pd.id != a.id then [(pd, .slice PA pn2 pc2)] else []) by
                rw [List.take_succ_eq_append_getElem hql, List.filter_append, hpq]
                congr 1
                by_cases h : pd.id = a.id <;> simp [h])
              clear hvc2 hpr hpq hadl hy
              by_cases he : pd.id = a.id
              · have hd3 : (pd.id != a.id) = false := by simpa using he
                have HE := Lib.hid he
                clear he
                go_wp2
                go_quiet (fail)
                clear hd3
                go_wp2
                go_roundw
                case rel =>
                  refine ⟨q + 1, by omega, by go_num, ?_, ⟨hBr.out.os, hBr.out.tape, hBr.out.output, hBr.out.size, hBr.out.block⟩⟩
                  show There _ _ _ _ _
                  rw [HSTEP.out, if_neg (by simp [HE.out]), List.append_nil]
                  exact hTr.out.block fun b _ => rfl
                case measure => simp [intOf] <;> omega
              · have hd3 : (pd.id != a.id) = true := by simpa using he
                have HE := Lib.hid he
                clear he
                go_wp2
                go_quiet (fail)
                clear hd3
                have hTq : There w (wr.drewN nq) w5.heap.size (.slice QA rl qcap) ((ps.take q).filter fun p => p.1.id != a.id) := hTr.out.block fun b _ => rfl
                have HTQ := Lib.hid hTq
                have hbq : w5.heap.size ≤ (wr.drewN nq).heap.size := hs5r
                clear hTq
                go_wp2_with (at_builtin; go_must (refine wpList_deed HTQ.out hbq HKP.out (by rw [HRL.out]; omega) rfl (.tmp 85) (.tmp 90) 1 rfl rfl rfl ?_); intro A6 n6 cap6 w6 hn6 hT6 hg6 hat6; have H6 := Lib.hid hT6; have HN6 := Lib.hid hn6; have HG6 := Lib.hid hg6; clear hn6 hT6 hg6 hat6)
                go_roundw
                case rel =>
                  refine ⟨q + 1, by omega, by go_num, ?_, ?_⟩
                  · show There _ _ _ _ _
                    rw [HSTEP.out, if_pos (by simpa using HE.out)]
                    exact H6.out
                  · have h9 : Below w5.heap.size w5 (wr.drewN nq) := ⟨hBr.out.os, hBr.out.tape, hBr.out.output, hBr.out.size, hBr.out.block⟩
                    exact h9.grown HG6.out hbq (fun k e => (HTQ.out.row.lt k e).1)
                case measure => simp [intOf] <;> omega
            · obtain rfl : q = pn := by omega
              have hfull : ps.take q = ps := List.take_of_length_le (by rw [HPN.out]; exact Nat.le_refl _)
              have HF := Lib.hid hfull
              have hokv := HM.out.ok HD.out
              rw [← map_fst_filter (fun b => b.id != a.id), List.length_map, List.length_map, HPN.out, HOK.out] at hokv
              have hrl3 := HRL.out
              rw [HF.out] at hrl3
              rw [hrl3] at hokv
              have HFIN := Lib.hid (show OrderRel w hd hu (j + 1) (.slice QA rl qcap) wr from by
                refine ⟨stepL L a, ps.filter fun p => p.1.id != a.id, tag5, tagU, ?_, hMl, ?_, by rw [hrl3]; omega, fun b e => ?_, ?_⟩
                · rw [show 900 * (j + 1) = 900 * j + 900 by omega]; exact HB5.out.below hBr.out
                · have h9 := hTr.out
                  rw [HF.out] at h9
                  exact h9.more hs5
                · have := (hTr.out.row.lt b e).1
                  exact ⟨HB5.out.a.th.fresh b this, HB5.out.b.th.fresh b this⟩
                · rw [map_fst_filter (fun b => b.id != a.id)]; exact HM.out.del HD.out)
              clear hfull hrl3
              by_cases hlt : rl < q
              · obtain rfl : ok = true := by rw [hokv]; exact decide_eq_true hlt
                have hl2 : (rl : Int) < q := by omega
                clear hokv
                go_wp2
                go_roundw
                case rel => exact ⟨j + 1, by omega, by go_num, HFIN⟩
                case measure => simp [intOf] <;> omega
              · obtain rfl : ok = false := by rw [hokv]; exact decide_eq_false hlt
                obtain rfl : rl = q := by omega
                clear hokv
                go_wp2
                go_roundw
                case rel => exact ⟨j + 1, by omega, by go_num, HFIN⟩
                case measure => simp [intOf] <;> omega
        · have hd1 : (a.do_ != 1) = true := by simpa using h1
          have HD := Lib.hid h1
          clear h1
          by_cases he : er = 0
          · have hd2 : (er == 0) = true := by simpa using he
            have HE := Lib.hid he
            clear he
            go_wp2_with (at_builtin; go_must (refine wpList_deed HT5.out hs5 HKD.out (by rw [HPN.out]; omega) rfl (.tmp 61) (.tmp 66) 1 rfl rfl rfl ?_); intro A6 n6 cap6 w6 hn6 hT6 hg6 hat6; have H6 := Lib.hid hT6; have HN6 := Lib.hid hn6; have HG6 := Lib.hid hg6; have HAT6 := Lib.hid hat6; clear hn6 hT6 hg6 hat6)
            go_roundw
            case rel =>
              have hb6 : Below w.heap.size w w6 := HB5.out.a.bel.grown HG6.out hs5 (fun k e => (HT5.out.row.lt k e).1)
              have hO6 : Off (fun b => (Value.slice VA pn vcap).ownBlock = some b) w5 w6 := (Off.refl _ w5).grown HG6.out fun k e => .inl e
              refine ⟨j + 1, by omega, by go_num, stepL L a, ps ++ [(a, .slice RA rn rc)], tag5, tagU, ?_, hMl, H6.out, by rw [List.length_append, HPN.out]; simp; omega, fun b e => ?_, ?_⟩
              · rw [show 900 * (j + 1) = 900 * j + 900 by omega]
                exact ⟨⟨HB5.out.a.th.off hO6 fun b e => (HVB5.out b e).1, HB5.out.a.old, hb6⟩, ⟨HB5.out.b.th.off hO6 fun b e => (HVB5.out b e).2, HB5.out.b.old, hb6⟩, HB5.out.dis⟩
              · rcases HAT6.out with h | ⟨k, h, hk⟩
                · exact HVB5.out b (h.symm.trans e)
                · have e2 : k = b := Option.some.inj (h.symm.trans e)
                  subst e2
                  exact ⟨HB5.out.a.th.fresh k hk, HB5.out.b.th.fresh k hk⟩
              · rw [List.map_append]
                exact HM.out.add HD.out (HER.out.trans HE.out)
            case measure => simp [intOf] <;> omega
          · have hd2 : (er == 0) = false := by simpa using he
            have HE := Lib.hid he
            clear he
            go_wp2
            go_roundw
            case rel =>
              refine ⟨j + 1, by omega, by go_num, stepL L a, ps, tag5, tagU, ?_, hMl, HT5.out, by rw [HPN.out]; omega, HVB5.out, HM.out.same HD.out (by rw [HER.out]; exact HE.out)⟩
              rw [show 900 * (j + 1) = 900 * j + 900 by omega]
              exact HB5.out
            case measure => simp [intOf] <;> omega
      · obtain rfl : j = n := by omega
        go_wp2
        go_loopw [12] (fun i wr' => ∃ k : Nat, k ≤ pn ∧ i = .int .i64 ((k : Int) - 1) ∧ Hid (UndoRel w hd hu L (900 * j) pn tag (.slice VA pn vcap) ps k wr')) (fun i _ => (intOf i + 1).toNat)
        case atStart =>
          refine ⟨pn, Nat.le_refl _, rfl, [], tagU, ?_, Nat.zero_le _, HT.out, HVB.out, ?_⟩
          · rw [Nat.sub_self]; exact HB.out
          · rw [← HPN.out, List.drop_length]; exact Match.nil_
        case round =>
          obtain ⟨k, hk, rfl, hU⟩ := hrel
          obtain ⟨L', tagU', hP, hLl, hT', hvb', hM'⟩ := hU.out
          have HP := Lib.hid hP
          have HT2 := Lib.hid hT'
          have HVB2 := Lib.hid hvb'
          have HM2 := Lib.hid hM'
          clear hU hP hT' hvb' hM'
          cases k with
          | zero =>
            have hLL : L' = L := by
              have h9 := HM2.out
              rw [List.drop_zero] at h9
              exact h9.inj HM.out HP.out.b.th.asc HP.out.a.th.asc fun a => Iff.rfl
            subst hLL
            rw [show ((0 : Nat) : Int) - 1 = -1 from rfl]
            have hLn : L'.length ≤ 40 := by omega
            go_wp2_with fail
            refine (all_any wr HP.out.a.th (by omega)).mono ?_
            rintro e w14 ⟨v, rfl, hv, hb⟩
            have hal := allOf_le L'
            have hae : ∀ l, l ∈ allOf L' → l.length ≤ 1000000 := fun l hl => by have := allOf_each hl; omega
            obtain ⟨WA, wc, rfl, -, -, vI⟩ := hv.lists hae
            have HB14 := Lib.hid (HP.out.below hb)
            have HL1 := Lib.hid vI
            obtain ⟨vn, hvn⟩ : ∃ x, (allOf L').length = x := ⟨_, rfl⟩
            rw [hvn] at HL1 hal ⊢
            have HVN := Lib.hid hvn
            clear hv hb hae vI hvn
            go_wp2_with fail
            refine (all_any w14 HB14.out.b.th (by omega)).mono ?_
            rintro e w15 ⟨v, rfl, hv, hb⟩
            have hae : ∀ l, l ∈ allOf L' → l.length ≤ 1000000 := fun l hl => by have := allOf_each hl; omega
            obtain ⟨UA, uc, rfl, -, -, uI⟩ := hv.lists hae
            have HB15 := Lib.hid (HB14.out.below hb)
            have HL2 := Lib.hid uI
            have HL3 := Lib.hid (HL1.out.below hb)
            rw [HVN.out] at HL2 ⊢
            clear hv hb hae uI
            go_wp2_with fail
            refine (same_any _ _ vn vn _ _ (allOf L') (allOf L') _ HL3.out HL2.out (by omega)).mono ?_
            rintro e w16 ⟨rfl, nd2, hw16⟩
            rw [decide_eq_true rfl]
            have h16 : Below w15.heap.size w15 w16 := by subst hw16; exact ⟨rfl, rfl, rfl, Nat.le_refl _, fun _ _ => rfl⟩
            have HB16 := Lib.hid (HB15.out.below h16)
            clear hw16 h16 HL1 HL2 HL3
            go_wp2
            go_ret
            exact ⟨rfl, HB16.out.a.bel⟩
          | succ t =>
            rw [show ((t + 1 : Nat) : Int) - 1 = (t : Int) by omega]
            have htl : t < ps.length := by rw [HPN.out]; omega
            obtain ⟨VA2, vcap2, ev, -, -, hvc2⟩ := HT2.out.at_
            obtain ⟨g, ega, -, hgl, t0, t1, t2, t3, t4⟩ := hvc2 t htl
            injection ev with ev en ec
            subst ev
            subst ec
            clear en
            subst ega
            obtain ⟨⟨pd, pv⟩, hpq⟩ : ∃ p, ps[t] = p := ⟨_, rfl⟩
            rw [hpq] at t0 t1 t2 t3 t4
            have HKP := Lib.hid (HT2.out.each _ (List.getElem_mem htl))
            rw [hpq] at HKP
            obtain ⟨PA, pn2, pc2, epv, hpr⟩ := HKP.out.2.2
            dsimp only at epv t0 t1 t2 t3 t4 hpr
            subst epv
            have ht2 : (t : Int) < pn := by omega
            have hdrop : ps.drop t = (pd, .slice PA pn2 pc2) :: ps.drop (t + 1) := by rw [List.drop_eq_getElem_cons htl, hpq]
            have hmem : pd ∈ ps.map (·.1) := List.mem_map.2 ⟨ps[t], List.getElem_mem htl, by rw [hpq]⟩
            obtain ⟨hpos, hdo⟩ := HM.out.pos pd hmem
            have hne := HM.out.ne
            rw [← List.take_append_drop t ps, List.map_append, hdrop, List.map_cons, List.pairwise_append] at hne
            have hne2 := (List.pairwise_cons.1 hne.2.1).1
            obtain ⟨he0, hM3⟩ := HM2.out.push hdo hpos hne2
            have h8 : pd.refs.length ≤ 8 := HKP.out.2.1
            have HHE := Lib.hid he0
            have HM3 := Lib.hid hM3
            have HPR := Lib.hid ((hpr.below HP.out.a.bel).more HP.out.a.bel.size)
            have HDR := Lib.hid hdrop
            clear hvc2 hpq hpr hdrop hmem hpos hdo hne hne2 he0 hM3
            go_wp2_with fail
            refine (do_any pd PA pn2 pc2 wr HP.out.b.th HKP.out.1 HPR.out h8 (by omega) (by omega)).mono ?_
            rintro e w5 ⟨rfl, tag5, hth, hO, hG⟩
            rw [HHE.out]
            have HP5 := Lib.hid (HP.out.turn' hth hO hG)
            have HT5 := Lib.hid (HT2.out.block (w' := w5) fun b e => hO.block b (HT2.out.row.lt b e).2 fun h => h.1 (HVB2.out b e).2)
            have HVB5 := Lib.hid (show ∀ b, (Value.slice (some ⟨g, 0, none⟩) pn vcap).ownBlock = some b → tag b = tOut ∧ tag5 b = tOut from fun b e => ⟨(HVB2.out b e).1, (hG b (HT2.out.row.lt b e).2).1 (HVB2.out b e).2⟩)
            clear hth hO hG
            go_wp2
            go_roundw
            case rel =>
              refine ⟨t, by omega, rfl, stepL L' pd, tag5, ?_, by have := stepL_le L' pd; omega, HT5.out, HVB5.out, ?_⟩
              · rw [show 900 * (pn - t) = 900 * (pn - (t + 1)) + 900 by omega]; exact HP5.out
              · rw [HDR.out]; exact HM3.out
            case measure => simp [intOf] <;> omega
end Go.Proofs.Ytlobiebmaheflaa
