/- Reference 37: row (printed by gen_rrow.py). Reference 37: query (printed by gen_rrow.py). -/
import Derived.Test.YtomcdhmcjndioaaGreatDoorV23
section
namespace Go.Proofs.YtomcdhmcjndioaaGreatDoor
open Go.RowKit
set_option linter.unusedVariables false

set_option maxRecDepth 100000 in
set_option maxHeartbeats 4000000 in
theorem rrow_any (s : List UInt8) (b d f : Nat) (hs : s.length ≤ 1000) (hd : d ≤ 8) (hT : ∀ g, g ≤ f → RTermC s b d g) : RRowC s b d (f + 1) := by
  intro w a ha hf hp
  have hbw := heap_lt hp
  have hob : Below w.heap.size w (w.alloc qObj) := (Below.refl w.heap.size w).alloc (Nat.le_refl _) _
  have HT := Lib.hid (hT f (Nat.le_refl _) (w.alloc qObj) a ha (by omega) (hp.below hob hbw))
  have hT := Lib.hid hT
  have hin := run_in s f .term d a ha
  obtain ⟨R, hR⟩ : ∃ R, runQ s f .term d a = R := ⟨_, rfl⟩
  have hrun : runQ s (f + 1) .row d a = R.then fun q b => runQ s f (.rows [q]) d b := by
    rw [← hR]
    rfl
  rw [hrun]
  rw [hR] at HT hin
  obtain ⟨RS, hRS⟩ : ∃ RS : QRes, (R.then fun q b => runQ s f (.rows [q]) d b) = RS := ⟨_, rfl⟩
  rw [hRS]
  have HRS := Lib.hid hRS
  have HOK := Lib.hid (show ∀ q0 a0, R = .ok q0 a0 → a0 ≤ s.length ∧ 1 ≤ a0 ∧ 3 * (s.length - a0) + 2 ≤ f from fun q0 a0 e => by
    have h1 := term_on s f d a q0 a0 ha (hR.trans e)
    have h2 : a0 ≤ s.length := by rw [e] at hin; exact hin.2
    omega)
  obtain ⟨fm, hfm⟩ : ∃ fm, f = fm := ⟨_, rfl⟩
  have HFM := Lib.hid hfm
  clear hp hR ha hf hin hob hrun hRS hfm
  go_enter Tryz.func35, Tryz.ntmps35
  go_wp2_with fail
  refine HT.out.mono ?_
  rintro e w1 ⟨⟨o, fl, t, n, A, m, c⟩, q, rfl, hq, hk, ho, hst⟩
  have hz : (w.alloc qObj).heap.size = w.heap.size + 1 := by simp
  have z1 : w.heap.size < w1.heap.size := Nat.lt_of_lt_of_le (by simp) ho.size
  obtain ⟨obj, hobj⟩ : ∃ obj : Obj, .cells #[.int .i64 o, .int .i64 fl, .string (ba t), .int .i64 n, .slice A m c] 25 = obj := ⟨_, rfl⟩
  have hql := QList.one (r := ⟨o, fl, t, n, (A, m, c)⟩) (show w.heap.size + 1 ≤ w1.heap.size from z1) (hq.more (by omega)) hk
  dsimp only at hql
  rw [hobj] at hql
  have hb1 : Below w1.heap.size w1 (w1.alloc obj) := (Below.refl w1.heap.size w1).alloc (Nat.le_refl _) _
  have hpst : RSt (w1.alloc obj) b s d q R := hst.off (F := fun _ => False) (Off.of_below hb1 (fun k h1 h2 => by omega)) (fun x => x)
  have HZ : QzAt (w1.alloc obj) w.heap.size := QzAt.below ((ho.block w.heap.size (by simp) (by omega)).trans (qzAt_new w)) hb1 z1
  have HST := Lib.hid (show RLRel w b s d fm .rows RS (.slice (some ⟨w1.heap.size, 0, none⟩) 1 1) [q] R q (w1.alloc obj) from
    ⟨⟨hql, hpst, HZ, ho.alloc obj, hbw⟩, by simp, fun q0 a0 e => by
        obtain ⟨h1, h2, h3⟩ := HOK.out q0 a0 e
        have hq0 : q = q0 := by have h := hpst; rw [e] at h; exact h.1
        exact ⟨h1, by simpa using h2, f, by rw [HFM.out]; exact Nat.le_refl _, h3, by rw [← HRS.out, e, hq0]; rfl⟩, fun e0 a0 e => by rw [← HRS.out, e]; rfl⟩)
  have HOB := Lib.hid hobj
  clear hq hk ho hst hql hb1 hpst HZ hobj
  unfold RawQ.val
  dsimp only
  go_wp2_with fail
  rw [HOB.out]
  clear HOB HOK HT
  go_loopw [3] (fun v wr => ∃ (l : List Qry) (R : QRes) (q : Qry), Hid (RLRel w b s d fm .rows RS v l R q wr)) (fun _ wr => rlLeft b s.length wr)
  case atStart => exact ⟨_, _, _, HST⟩
  case round =>
    obtain ⟨l, R1, q1, HR⟩ := hrel
    clear HST
    have HMR := Lib.hid HR.out.mid
    obtain ⟨r0, r1, r2, r3, r4, rf⟩ := HR.out.mid.res.cells
    have zr := HR.out.mid.size
    have hne5 : ¬ b = w.heap.size := by omega
    have hne6 : ¬ w.heap.size = b := by omega
    cases R1 with
    | err e0 a0 =>
      obtain ⟨he0, dd, hd1, hd2, hps⟩ := HR.out.mid.pst
      obtain ⟨p0, p1, p2, p3, p4, pf, plt⟩ := hps.cells
      have ge : ((e0 : Int) == 0) = false := by simp; omega
      have geb : ((e0 : Int) != 0) = true := by simp; omega
      clear hps
      by_cases h1 : l.length = 1
      · obtain ⟨q9, rfl⟩ := List.length_eq_one_iff.1 h1
        obtain ⟨ad, c9, ⟨o9, f9, y9, n9, A9, m9, c10⟩, rfl, hc9, hq9, hk9, hlt9, c0, c1, c2, c3, c4⟩ := HMR.out.lst.only
        dsimp only at c0 c1 c2 c3 c4
        have HQ9 := Lib.hid hq9
        have HK9 := Lib.hid hk9
        have HE9 := Lib.hid (show RS = _ from HR.out.isErr e0 a0 rfl)
        have HT9 := Lib.hid (show RSt (wr) b s d (joinQ 11 [q9]) (.err e0 a0) from HR.out.mid.pst)
        clear h1 hq9 hk9
        go_wp2
        refine bodyPost_ret (v := .agg #[.int .i64 o9, .int .i64 f9, .string (ba y9), .int .i64 n9, .slice A9 m9 c10]) (by simp [results, Tryz.results35, go_sem, r0, r1, r2, r3, r4]) rfl ?_
        rw [HE9.out]
        exact rterm_end (W := wr) (r := ⟨o9, f9, y9, n9, (A9, m9, c10)⟩) (B := w.heap.size + 1) hbw ((off_new w (fun k => k = b) qObj).trans HMR.out.off) (Nat.lt_succ_self _) (HQ9.out) HK9.out HT9.out (put5_off _ w.heap.size _ _ _ _ _)
      · obtain ⟨A9, c9, rfl, hq9⟩ := HMR.out.lst.parent 11
        have g1 : ((l.length : Int) == 1) = false := by simp; omega
        have HQ9 := Lib.hid hq9
        have HJ := Lib.hid (joinQ_more (op := 11) h1)
        have HE9 := Lib.hid (show RS = _ from HR.out.isErr e0 a0 rfl)
        have HT9 := Lib.hid (show RSt (wr) b s d (joinQ 11 l) (.err e0 a0) from HR.out.mid.pst)
        clear h1 hq9
        go_wp2
        refine bodyPost_ret (v := .agg #[.int .i64 11, .int .i64 0, .string ⟨#[]⟩, .int .i64 0, .slice A9 l.length c9]) (by simp [results, Tryz.results35, go_sem, r0, r1, r2, r3, r4]) rfl ?_
        rw [HE9.out]
        exact rterm_end (W := wr) (r := ⟨11, 0, [], 0, (A9, l.length, c9)⟩) (q := joinQ 11 l) (B := w.heap.size + 1) hbw ((off_new w (fun k => k = b) qObj).trans HMR.out.off) (Nat.lt_succ_self _) (by rw [HJ.out]; exact HQ9.out) ⟨⟨by dsimp only; omega, by dsimp only; omega⟩, ⟨by dsimp only; omega, by dsimp only; omega⟩, ⟨by dsimp only; have := HR.out.len; omega, by dsimp only; have := HR.out.len; omega⟩⟩ HT9.out (put5_off _ w.heap.size _ _ _ _ _)
    | ok q0 a0 =>
      obtain ⟨ha0, hll, g, hg1, hg2, hRSg⟩ := HR.out.isOk q0 a0 rfl
      obtain ⟨rfl, hpsr⟩ := HR.out.mid.pst
      obtain ⟨p0, p1, p2, p3, p4, pf, plt⟩ := hpsr.cells
      replace p3 : _ = some (Value.int .i64 0) := p3
      have HPK := Lib.hid (rpeek_any s a0 b wr (by omega) ha0 p0 p1)
      obtain ⟨jx, kx, Tx, qx, Ux, zx, hpx, hfin, hsht, h5n, h5y⟩ := rpcV_tells (s := s) (a := a0) (n := s.length)
      have HPX := Lib.hid hpx
      have HFIN := Lib.hid hfin
      have HSHT := Lib.hid hsht
      have H5N := Lib.hid h5n
      have H5Y := Lib.hid h5y
      have HA0 := Lib.hid ha0
      have HLL := Lib.hid hll
      have HRS0 := Lib.hid hRSg
      obtain ⟨g', rfl⟩ : ∃ g', g = g' + 1 := ⟨g - 1, by omega⟩
      have HG1 := Lib.hid (show g' + 1 ≤ fm from hg1)
      have HG2 := Lib.hid hg2
      clear hpx hfin hsht h5n h5y ha0 hll hg2 hRSg hpsr hg1
      go_wp2_with fail
      refine HPK.out.mono ?_
      rintro e v1 ⟨rfl, hb1⟩
      rw [HPX.out]
      have HM1 := Lib.hid (HMR.out.below hb1)
      have HB1 := Lib.hid hb1
      have zb1 := hb1.size
      clear hb1 r0 r1 r2 r3 r4 rf p0 p1 p2 p3 p4 pf plt HPK
      obtain ⟨r0, r1, r2, r3, r4, rf⟩ := HM1.out.res.cells
      have HPV := Lib.hid HM1.out.pst.2
      obtain ⟨p0, p1, p2, p3, p4, pf, plt⟩ := HPV.out.cells
      replace p3 : _ = some (Value.int .i64 0) := p3
      have zv := HM1.out.size
      have hnb : ¬ b = v1.heap.size := by omega
      have hnb2 : ¬ v1.heap.size = b := by omega
      by_cases h0 : kx = 0
      · subst h0
        have HE := Lib.hid (show RS = .ok (joinQ 11 l) a0 from HRS0.out.trans (rows_end (by omega) (by rw [stopRow_is, HFIN.out]; rfl)))
        by_cases h1 : l.length = 1
        · obtain ⟨q9, rfl⟩ := List.length_eq_one_iff.1 h1
          obtain ⟨ad, c9, ⟨o9, f9, y9, n9, A9, m9, c10⟩, rfl, hc9, hq9, hk9, hlt9, c0, c1, c2, c3, c4⟩ := HM1.out.lst.only
          dsimp only at c0 c1 c2 c3 c4
          have HQ9 := Lib.hid hq9
          have HK9 := Lib.hid hk9
          have HE9 := Lib.hid (show RS = _ from HE.out)
          have HT9 := Lib.hid (show RSt (v1) b s d (joinQ 11 [q9]) (.ok (joinQ 11 [q9]) a0) from ⟨rfl, HPV.out⟩)
          clear h1 hq9 hk9
          go_wp2
          refine bodyPost_ret (v := .agg #[.int .i64 o9, .int .i64 f9, .string (ba y9), .int .i64 n9, .slice A9 m9 c10]) (by simp [results, Tryz.results35, go_sem, zv, r0, r1, r2, r3, r4]) rfl ?_
          rw [HE9.out]
          exact rterm_end (W := v1) (r := ⟨o9, f9, y9, n9, (A9, m9, c10)⟩) (B := w.heap.size + 1) hbw ((off_new w (fun k => k = b) qObj).trans HM1.out.off) (Nat.lt_succ_self _) (HQ9.out) HK9.out HT9.out ((put5_off _ w.heap.size _ _ _ _ _).alloc _)
        · obtain ⟨A9, c9, rfl, hq9⟩ := HM1.out.lst.parent 11
          have g1 : ((l.length : Int) == 1) = false := by simp; omega
          have HQ9 := Lib.hid hq9
          have HJ := Lib.hid (joinQ_more (op := 11) h1)
          have HE9 := Lib.hid (show RS = _ from HE.out)
          have HT9 := Lib.hid (show RSt (v1) b s d (joinQ 11 l) (.ok (joinQ 11 l) a0) from ⟨rfl, HPV.out⟩)
          clear h1 hq9
          go_wp2
          refine bodyPost_ret (v := .agg #[.int .i64 11, .int .i64 0, .string ⟨#[]⟩, .int .i64 0, .slice A9 l.length c9]) (by simp [results, Tryz.results35, go_sem, zv, r0, r1, r2, r3, r4]) rfl ?_
          rw [HE9.out]
          exact rterm_end (W := v1) (r := ⟨11, 0, [], 0, (A9, l.length, c9)⟩) (q := joinQ 11 l) (B := w.heap.size + 1) hbw ((off_new w (fun k => k = b) qObj).trans HM1.out.off) (Nat.lt_succ_self _) (by rw [HJ.out]; exact HQ9.out) ⟨⟨by dsimp only; omega, by dsimp only; omega⟩, ⟨by dsimp only; omega, by dsimp only; omega⟩, ⟨by dsimp only; have := HR.out.len; omega, by dsimp only; have := HR.out.len; omega⟩⟩ HT9.out ((put5_off _ w.heap.size _ _ _ _ _).alloc _)
      · have h0b : (kx == 0) = false := by simpa using h0
        have h0c : (kx != 0) = true := by simpa using h0
        by_cases h2 : kx = 2
        · subst h2
          have HE := Lib.hid (show RS = .ok (joinQ 11 l) a0 from HRS0.out.trans (rows_end (by omega) (by rw [stopRow_is, HSHT.out, HFIN.out]; rfl)))
          by_cases h1 : l.length = 1
          · obtain ⟨q9, rfl⟩ := List.length_eq_one_iff.1 h1
            obtain ⟨ad, c9, ⟨o9, f9, y9, n9, A9, m9, c10⟩, rfl, hc9, hq9, hk9, hlt9, c0, c1, c2, c3, c4⟩ := HM1.out.lst.only
            dsimp only at c0 c1 c2 c3 c4
            have HQ9 := Lib.hid hq9
            have HK9 := Lib.hid hk9
            have HE9 := Lib.hid (show RS = _ from HE.out)
            have HT9 := Lib.hid (show RSt (v1) b s d (joinQ 11 [q9]) (.ok (joinQ 11 [q9]) a0) from ⟨rfl, HPV.out⟩)
            clear h1 hq9 hk9
            go_wp2
            refine bodyPost_ret (v := .agg #[.int .i64 o9, .int .i64 f9, .string (ba y9), .int .i64 n9, .slice A9 m9 c10]) (by simp [results, Tryz.results35, go_sem, zv, r0, r1, r2, r3, r4]) rfl ?_
            rw [HE9.out]
            exact rterm_end (W := v1) (r := ⟨o9, f9, y9, n9, (A9, m9, c10)⟩) (B := w.heap.size + 1) hbw ((off_new w (fun k => k = b) qObj).trans HM1.out.off) (Nat.lt_succ_self _) (HQ9.out) HK9.out HT9.out ((put5_off _ w.heap.size _ _ _ _ _).alloc _)
          · obtain ⟨A9, c9, rfl, hq9⟩ := HM1.out.lst.parent 11
            have g1 : ((l.length : Int) == 1) = false := by simp; omega
            have HQ9 := Lib.hid hq9
            have HJ := Lib.hid (joinQ_more (op := 11) h1)
            have HE9 := Lib.hid (show RS = _ from HE.out)
            have HT9 := Lib.hid (show RSt (v1) b s d (joinQ 11 l) (.ok (joinQ 11 l) a0) from ⟨rfl, HPV.out⟩)
            clear h1 hq9
            go_wp2
            refine bodyPost_ret (v := .agg #[.int .i64 11, .int .i64 0, .string ⟨#[]⟩, .int .i64 0, .slice A9 l.length c9]) (by simp [results, Tryz.results35, go_sem, zv, r0, r1, r2, r3, r4]) rfl ?_
            rw [HE9.out]
            exact rterm_end (W := v1) (r := ⟨11, 0, [], 0, (A9, l.length, c9)⟩) (q := joinQ 11 l) (B := w.heap.size + 1) hbw ((off_new w (fun k => k = b) qObj).trans HM1.out.off) (Nat.lt_succ_self _) (by rw [HJ.out]; exact HQ9.out) ⟨⟨by dsimp only; omega, by dsimp only; omega⟩, ⟨by dsimp only; omega, by dsimp only; omega⟩, ⟨by dsimp only; have := HR.out.len; omega, by dsimp only; have := HR.out.len; omega⟩⟩ HT9.out ((put5_off _ w.heap.size _ _ _ _ _).alloc _)
        · have h2b : (kx == 2) = false := by simpa using h2
          have h2c : (kx != 2) = true := by simpa using h2
          by_cases h5 : kx = 5
          · subst h5
            clear h0 h0b h0c h2 h2b h2c
            obtain ⟨hj, t5, hT5, hor, han⟩ := H5Y.out rfl
            by_cases e1 : t5 = wOR
            · have HE := Lib.hid (show RS = .ok (joinQ 11 l) a0 from HRS0.out.trans (rows_end (by omega) (by rw [stopRow_is, hor, decide_eq_true e1, Bool.or_true])))
              obtain rfl : Tx = ⟨#[79, 82]⟩ := by rw [hT5, e1]; rfl
              clear hj hT5 hor han e1
              by_cases h1 : l.length = 1
              · obtain ⟨q9, rfl⟩ := List.length_eq_one_iff.1 h1
                obtain ⟨ad, c9, ⟨o9, f9, y9, n9, A9, m9, c10⟩, rfl, hc9, hq9, hk9, hlt9, c0, c1, c2, c3, c4⟩ := HM1.out.lst.only
                dsimp only at c0 c1 c2 c3 c4
                have HQ9 := Lib.hid hq9
                have HK9 := Lib.hid hk9
                have HE9 := Lib.hid (show RS = _ from HE.out)
                have HT9 := Lib.hid (show RSt (v1) b s d (joinQ 11 [q9]) (.ok (joinQ 11 [q9]) a0) from ⟨rfl, HPV.out⟩)
                clear h1 hq9 hk9
                go_wp2
                refine bodyPost_ret (v := .agg #[.int .i64 o9, .int .i64 f9, .string (ba y9), .int .i64 n9, .slice A9 m9 c10]) (by simp [results, Tryz.results35, go_sem, zv, r0, r1, r2, r3, r4]) rfl ?_
                rw [HE9.out]
                exact rterm_end (W := v1) (r := ⟨o9, f9, y9, n9, (A9, m9, c10)⟩) (B := w.heap.size + 1) hbw ((off_new w (fun k => k = b) qObj).trans HM1.out.off) (Nat.lt_succ_self _) (HQ9.out) HK9.out HT9.out ((put5_off _ w.heap.size _ _ _ _ _).alloc _)
              · obtain ⟨A9, c9, rfl, hq9⟩ := HM1.out.lst.parent 11
                have g1 : ((l.length : Int) == 1) = false := by simp; omega
                have HQ9 := Lib.hid hq9
                have HJ := Lib.hid (joinQ_more (op := 11) h1)
                have HE9 := Lib.hid (show RS = _ from HE.out)
                have HT9 := Lib.hid (show RSt (v1) b s d (joinQ 11 l) (.ok (joinQ 11 l) a0) from ⟨rfl, HPV.out⟩)
                clear h1 hq9
                go_wp2
                refine bodyPost_ret (v := .agg #[.int .i64 11, .int .i64 0, .string ⟨#[]⟩, .int .i64 0, .slice A9 l.length c9]) (by simp [results, Tryz.results35, go_sem, zv, r0, r1, r2, r3, r4]) rfl ?_
                rw [HE9.out]
                exact rterm_end (W := v1) (r := ⟨11, 0, [], 0, (A9, l.length, c9)⟩) (q := joinQ 11 l) (B := w.heap.size + 1) hbw ((off_new w (fun k => k = b) qObj).trans HM1.out.off) (Nat.lt_succ_self _) (by rw [HJ.out]; exact HQ9.out) ⟨⟨by dsimp only; omega, by dsimp only; omega⟩, ⟨by dsimp only; omega, by dsimp only; omega⟩, ⟨by dsimp only; have := HR.out.len; omega, by dsimp only; have := HR.out.len; omega⟩⟩ HT9.out ((put5_off _ w.heap.size _ _ _ _ _).alloc _)
            · rw [decide_eq_false e1] at hor
              by_cases e2 : t5 = wAND
              · rw [decide_eq_true e2] at han
                have HRSG := Lib.hid (HRS0.out.trans (rows_on (by rw [stopRow_is, HFIN.out, HSHT.out, hor]; rfl)))
                have HJX := Lib.hid hj
                have HAN := Lib.hid han
                have HDS := Lib.hid (peek_bare han)
                obtain rfl : Tx = ⟨#[65, 78, 68]⟩ := by rw [hT5, e2]; rfl
                clear hj hT5 hor han e1 e2
                have HM2 := Lib.hid (show RLMid w b s d _ l (.ok q1 a0) q1 (v1.alloc (.cells #[.int .i64 ((peekQ s a0).src : Nat), .int .i64 jx, .int .i64 5, .string ⟨#[65, 78, 68]⟩, .bool qx, .string Ux, .bool zx] 51)) from HM1.out.below ((Below.refl _ _).alloc (Nat.le_refl _) _))
                have HOF := Lib.hid (show Off (fun k => k = b) wr ((v1.setCell ⟨b, 1, none⟩ (.int .i64 jx)).alloc (.cells #[.int .i64 ((peekQ s a0).src : Nat), .int .i64 jx, .int .i64 5, .string ⟨#[65, 78, 68]⟩, .bool qx, .string Ux, .bool zx] 51)) from ((Off.of_below (F := fun k => k = b) HB1.out (fun k h1 h2 => by omega)).setCell (p := ⟨b, 1, none⟩) (.inl rfl) _).alloc _)
                have HPW := Lib.hid (show RPsr ((v1.setCell ⟨b, 1, none⟩ (.int .i64 jx)).alloc (.cells #[.int .i64 ((peekQ s a0).src : Nat), .int .i64 jx, .int .i64 5, .string ⟨#[65, 78, 68]⟩, .bool qx, .string Ux, .bool zx] 51)) b s ((peekQ s a0).dst) d 0 0 from by rw [HJX.out]; exact (HPV.out.at_ _).below ((Below.refl _ _).alloc (Nat.le_refl _) _) (by rw [World.size_setCell]; exact plt))
                have HAT := Lib.hid (show ((peekQ s a0).dst) ≤ s.length from (peek_in s a0 HA0.out).2.2.2)
                have HCC := Lib.hid (hT.out g' (by have := HG1.out; have := HFM.out; omega) ((v1.setCell ⟨b, 1, none⟩ (.int .i64 jx)).alloc (.cells #[.int .i64 ((peekQ s a0).src : Nat), .int .i64 jx, .int .i64 5, .string ⟨#[65, 78, 68]⟩, .bool qx, .string Ux, .bool zx] 51)) ((peekQ s a0).dst) HAT.out (by have := HDS.out; have := HG2.out; have := (peek_in s a0 HA0.out).2.2.2; omega) HPW.out)
                have HIN := Lib.hid (run_in s g' .term d ((peekQ s a0).dst) HAT.out)
                have HON := Lib.hid (fun q0 a9 (e9 : runQ s g' .term d ((peekQ s a0).dst) = .ok q0 a9) => term_on s g' d ((peekQ s a0).dst) q0 a9 HAT.out e9)
                obtain ⟨R, hR⟩ : ∃ R, runQ s g' .term d ((peekQ s a0).dst) = R := ⟨_, rfl⟩
                have HRR := Lib.hid hR
                rw [hR] at HCC HIN HON
                have HRS2 := Lib.hid (show RS = R.then fun q b => runQ s g' (.rows (l ++ [q])) d b from HRSG.out.trans (by rw [← HRR.out, HAN.out]; first | done | rfl))
                have HON2 := Lib.hid (show ∀ q0 a9, R = .ok q0 a9 → a0 < a9 ∧ a9 ≤ s.length from fun q0 a9 e9 => by
                  have h1 := HON.out q0 a9 e9
                  have h2 := HIN.out
                  rw [e9] at h2
                  exact ⟨by have := HDS.out; omega, h2.2⟩)
                clear hR
                go_wp2_with fail
                refine HCC.out.mono ?_
                rintro e w3 ⟨⟨o, fl, t, n, A, m, c⟩, q, rfl, hq, hk, ho, hst⟩
                have HQ3 := Lib.hid hq
                have HK3 := Lib.hid hk
                have HO3 := Lib.hid ho
                have HS3 := Lib.hid hst
                have hob3 : ∃ obj : Obj, .cells #[.int .i64 o, .int .i64 fl, .string (ba t), .int .i64 n, .slice A m c] 25 = obj := ⟨_, rfl⟩
                obtain ⟨obj, hobj⟩ := hob3
                have HOB3 := Lib.hid hobj
                have HRAW := Lib.hid (show Raws (w3.alloc obj) (w3.alloc obj).heap.size (some ⟨w3.heap.size, 0, none⟩) 1 [⟨o, fl, t, n, (A, m, c)⟩] by
                  obtain ⟨A', c', e', _, _, hr⟩ := (OwnRaws.one w3 w3.heap.size (Nat.le_refl _) ⟨o, fl, t, n, (A, m, c)⟩ HK3.out).reads
                  dsimp only at e' hr
                  rw [HOB3.out] at hr
                  injection e' with e1 e2 e3
                  subst e1
                  exact hr)
                clear hq hk ho hst hobj
                obtain ⟨raws, hn1, hn2, hn3⟩ := rl_next HR.out.mid HOF.out HQ3.out HO3.out HS3.out obj
                have HN1 := Lib.hid hn1
                have HN2 := Lib.hid (show raws.length + 1 ≤ 1000000000 by have := HR.out.len; omega)
                have HN3 := Lib.hid hn3
                have HSZ3 := Lib.hid (show w.heap.size + 1 ≤ (w3.alloc obj).heap.size by have h1 := HR.out.mid.size; have h2 := HOF.out.size; have h3 := HO3.out.size; rw [World.size_alloc]; omega)
                clear hn1 hn2 hn3 r0 r1 r2 r3 r4 rf p0 p1 p2 p3 p4 pf plt
                unfold RawQ.val
                dsimp only
                go_wp2_with (at_builtin; (try rw [HOB3.out]); go_must (refine wpList_joinRaw (w := w3.alloc obj) HN1.out HSZ3.out HRAW.out HN2.out rfl (.tmp 46) (.tmp 49) 23 1 rfl Tryz.underlying23 rfl (by rfl) ?_); intro v6 w6 h1 h2 h3; (
                  have HM6 := Lib.hid (HN3.out v6 w6 h1 h2 h3)
                  clear h1 h2 h3))
                have HLR := Lib.hid (rl_done (fm := fm) (K := .rows) (RS := RS) (g := g') HM6.out HLL.out HA0.out HG1.out HG2.out HON2.out HRS2.out)
                have HLM := Lib.hid (rl_less HR.out.mid.pst HLR.out.mid.pst HA0.out HON2.out)
                go_roundw
                case rel => exact ⟨_, _, _, HLR⟩
                case measure => exact HLM.out
              · rw [decide_eq_false e2] at han
                have HRSG := Lib.hid (HRS0.out.trans (rows_on (by rw [stopRow_is, HFIN.out, HSHT.out, hor]; rfl)))
                have HAN := Lib.hid han
                obtain rfl := hT5
                clear hj hor han
                have m0 : ((ba t5).toList == (⟨#[79, 82]⟩ : ByteArray).toList) = false ∧ ((⟨#[79, 82]⟩ : ByteArray).toList == (ba t5).toList) = false ∧ ¬ (ba t5).toList = (⟨#[79, 82]⟩ : ByteArray).toList ∧ ¬ (⟨#[79, 82]⟩ : ByteArray).toList = (ba t5).toList ∧ decide (ba t5 = (⟨#[79, 82]⟩ : ByteArray)) = false ∧ ¬ ba t5 = (⟨#[79, 82]⟩ : ByteArray) := str_not e1
                have t0 : (⟨#[79, 82]⟩ : ByteArray).toList = [79, 82] := ba_toList [79, 82]
                have mm0 := m0
                rw [t0] at m0
                obtain ⟨u01, u02, u03, u04, u05, u06⟩ := m0
                obtain ⟨v01, v02, v03, v04, -, -⟩ := mm0
                clear t0
                have m1 : ((ba t5).toList == (⟨#[65, 78, 68]⟩ : ByteArray).toList) = false ∧ ((⟨#[65, 78, 68]⟩ : ByteArray).toList == (ba t5).toList) = false ∧ ¬ (ba t5).toList = (⟨#[65, 78, 68]⟩ : ByteArray).toList ∧ ¬ (⟨#[65, 78, 68]⟩ : ByteArray).toList = (ba t5).toList ∧ decide (ba t5 = (⟨#[65, 78, 68]⟩ : ByteArray)) = false ∧ ¬ ba t5 = (⟨#[65, 78, 68]⟩ : ByteArray) := str_not e2
                have t1 : (⟨#[65, 78, 68]⟩ : ByteArray).toList = [65, 78, 68] := ba_toList [65, 78, 68]
                have mm1 := m1
                rw [t1] at m1
                obtain ⟨u11, u12, u13, u14, u15, u16⟩ := m1
                obtain ⟨v11, v12, v13, v14, -, -⟩ := mm1
                clear t1
                clear e1 e2
                have HM2 := Lib.hid (show RLMid w b s d _ l (.ok q1 a0) q1 (v1.alloc (.cells #[.int .i64 ((peekQ s a0).src : Nat), .int .i64 jx, .int .i64 5, .string (ba t5), .bool qx, .string Ux, .bool zx] 51)) from HM1.out.below ((Below.refl _ _).alloc (Nat.le_refl _) _))
                have HOF := Lib.hid (show Off (fun k => k = b) wr (v1.alloc (.cells #[.int .i64 ((peekQ s a0).src : Nat), .int .i64 jx, .int .i64 5, .string (ba t5), .bool qx, .string Ux, .bool zx] 51)) from (Off.of_below (F := fun k => k = b) (HB1.out.alloc HB1.out.size (.cells #[.int .i64 ((peekQ s a0).src : Nat), .int .i64 jx, .int .i64 5, .string (ba t5), .bool qx, .string Ux, .bool zx] 51)) (fun k h1 h2 => by omega)))
                have HPW := Lib.hid (show RPsr (v1.alloc (.cells #[.int .i64 ((peekQ s a0).src : Nat), .int .i64 jx, .int .i64 5, .string (ba t5), .bool qx, .string Ux, .bool zx] 51)) b s (a0) d 0 0 from HM2.out.pst.2)
                have HAT := Lib.hid (show (a0) ≤ s.length from HA0.out)
                have HCC := Lib.hid (hT.out g' (by have := HG1.out; have := HFM.out; omega) (v1.alloc (.cells #[.int .i64 ((peekQ s a0).src : Nat), .int .i64 jx, .int .i64 5, .string (ba t5), .bool qx, .string Ux, .bool zx] 51)) (a0) HAT.out (by have := HG2.out; have := HA0.out; omega) HPW.out)
                have HIN := Lib.hid (run_in s g' .term d (a0) HAT.out)
                have HON := Lib.hid (fun q0 a9 (e9 : runQ s g' .term d (a0) = .ok q0 a9) => term_on s g' d (a0) q0 a9 HAT.out e9)
                obtain ⟨R, hR⟩ : ∃ R, runQ s g' .term d (a0) = R := ⟨_, rfl⟩
                have HRR := Lib.hid hR
                rw [hR] at HCC HIN HON
                have HRS2 := Lib.hid (show RS = R.then fun q b => runQ s g' (.rows (l ++ [q])) d b from HRSG.out.trans (by rw [← HRR.out, HAN.out]; first | done | rfl))
                have HON2 := Lib.hid (show ∀ q0 a9, R = .ok q0 a9 → a0 < a9 ∧ a9 ≤ s.length from fun q0 a9 e9 => by
                  have h1 := HON.out q0 a9 e9
                  have h2 := HIN.out
                  rw [e9] at h2
                  exact ⟨h1, h2.2⟩)
                clear hR
                go_wp2_with fail
                refine HCC.out.mono ?_
                rintro e w3 ⟨⟨o, fl, t, n, A, m, c⟩, q, rfl, hq, hk, ho, hst⟩
                have HQ3 := Lib.hid hq
                have HK3 := Lib.hid hk
                have HO3 := Lib.hid ho
                have HS3 := Lib.hid hst
                have hob3 : ∃ obj : Obj, .cells #[.int .i64 o, .int .i64 fl, .string (ba t), .int .i64 n, .slice A m c] 25 = obj := ⟨_, rfl⟩
                obtain ⟨obj, hobj⟩ := hob3
                have HOB3 := Lib.hid hobj
                have HRAW := Lib.hid (show Raws (w3.alloc obj) (w3.alloc obj).heap.size (some ⟨w3.heap.size, 0, none⟩) 1 [⟨o, fl, t, n, (A, m, c)⟩] by
                  obtain ⟨A', c', e', _, _, hr⟩ := (OwnRaws.one w3 w3.heap.size (Nat.le_refl _) ⟨o, fl, t, n, (A, m, c)⟩ HK3.out).reads
                  dsimp only at e' hr
                  rw [HOB3.out] at hr
                  injection e' with e1 e2 e3
                  subst e1
                  exact hr)
                clear hq hk ho hst hobj
                obtain ⟨raws, hn1, hn2, hn3⟩ := rl_next HR.out.mid HOF.out HQ3.out HO3.out HS3.out obj
                have HN1 := Lib.hid hn1
                have HN2 := Lib.hid (show raws.length + 1 ≤ 1000000000 by have := HR.out.len; omega)
                have HN3 := Lib.hid hn3
                have HSZ3 := Lib.hid (show w.heap.size + 1 ≤ (w3.alloc obj).heap.size by have h1 := HR.out.mid.size; have h2 := HOF.out.size; have h3 := HO3.out.size; rw [World.size_alloc]; omega)
                clear hn1 hn2 hn3 r0 r1 r2 r3 r4 rf p0 p1 p2 p3 p4 pf plt
                unfold RawQ.val
                dsimp only
                go_wp2_with (at_builtin; (try rw [HOB3.out]); go_must (refine wpList_joinRaw (w := w3.alloc obj) HN1.out HSZ3.out HRAW.out HN2.out rfl (.tmp 46) (.tmp 49) 23 1 rfl Tryz.underlying23 rfl (by rfl) ?_); intro v6 w6 h1 h2 h3; (
                  have HM6 := Lib.hid (HN3.out v6 w6 h1 h2 h3)
                  clear h1 h2 h3))
                have HLR := Lib.hid (rl_done (fm := fm) (K := .rows) (RS := RS) (g := g') HM6.out HLL.out HA0.out HG1.out HG2.out HON2.out HRS2.out)
                have HLM := Lib.hid (rl_less HR.out.mid.pst HLR.out.mid.pst HA0.out HON2.out)
                go_roundw
                case rel => exact ⟨_, _, _, HLR⟩
                case measure => exact HLM.out
          · have h5b : (kx == 5) = false := by simpa using h5
            have h5c : (kx != 5) = true := by simpa using h5
            have HAN := Lib.hid (H5N.out h5b).2
            have HRSG := Lib.hid (HRS0.out.trans (rows_on (by rw [stopRow_is, HFIN.out, HSHT.out, (H5N.out h5b).1, h0b, h2b]; rfl)))
            have HM2 := Lib.hid (show RLMid w b s d _ l (.ok q1 a0) q1 (v1.alloc (.cells #[.int .i64 ((peekQ s a0).src : Nat), .int .i64 jx, .int .i64 kx, .string Tx, .bool qx, .string Ux, .bool zx] 51)) from HM1.out.below ((Below.refl _ _).alloc (Nat.le_refl _) _))
            have HOF := Lib.hid (show Off (fun k => k = b) wr (v1.alloc (.cells #[.int .i64 ((peekQ s a0).src : Nat), .int .i64 jx, .int .i64 kx, .string Tx, .bool qx, .string Ux, .bool zx] 51)) from (Off.of_below (F := fun k => k = b) (HB1.out.alloc HB1.out.size (.cells #[.int .i64 ((peekQ s a0).src : Nat), .int .i64 jx, .int .i64 kx, .string Tx, .bool qx, .string Ux, .bool zx] 51)) (fun k h1 h2 => by omega)))
            have HPW := Lib.hid (show RPsr (v1.alloc (.cells #[.int .i64 ((peekQ s a0).src : Nat), .int .i64 jx, .int .i64 kx, .string Tx, .bool qx, .string Ux, .bool zx] 51)) b s (a0) d 0 0 from HM2.out.pst.2)
            have HAT := Lib.hid (show (a0) ≤ s.length from HA0.out)
            have HCC := Lib.hid (hT.out g' (by have := HG1.out; have := HFM.out; omega) (v1.alloc (.cells #[.int .i64 ((peekQ s a0).src : Nat), .int .i64 jx, .int .i64 kx, .string Tx, .bool qx, .string Ux, .bool zx] 51)) (a0) HAT.out (by have := HG2.out; have := HA0.out; omega) HPW.out)
            have HIN := Lib.hid (run_in s g' .term d (a0) HAT.out)
            have HON := Lib.hid (fun q0 a9 (e9 : runQ s g' .term d (a0) = .ok q0 a9) => term_on s g' d (a0) q0 a9 HAT.out e9)
            obtain ⟨R, hR⟩ : ∃ R, runQ s g' .term d (a0) = R := ⟨_, rfl⟩
            have HRR := Lib.hid hR
            rw [hR] at HCC HIN HON
            have HRS2 := Lib.hid (show RS = R.then fun q b => runQ s g' (.rows (l ++ [q])) d b from HRSG.out.trans (by rw [← HRR.out, HAN.out]; first | done | rfl))
            have HON2 := Lib.hid (show ∀ q0 a9, R = .ok q0 a9 → a0 < a9 ∧ a9 ≤ s.length from fun q0 a9 e9 => by
              have h1 := HON.out q0 a9 e9
              have h2 := HIN.out
              rw [e9] at h2
              exact ⟨h1, h2.2⟩)
            clear hR
            go_wp2_with fail
            refine HCC.out.mono ?_
            rintro e w3 ⟨⟨o, fl, t, n, A, m, c⟩, q, rfl, hq, hk, ho, hst⟩
            have HQ3 := Lib.hid hq
            have HK3 := Lib.hid hk
            have HO3 := Lib.hid ho
            have HS3 := Lib.hid hst
            have hob3 : ∃ obj : Obj, .cells #[.int .i64 o, .int .i64 fl, .string (ba t), .int .i64 n, .slice A m c] 25 = obj := ⟨_, rfl⟩
            obtain ⟨obj, hobj⟩ := hob3
            have HOB3 := Lib.hid hobj
            have HRAW := Lib.hid (show Raws (w3.alloc obj) (w3.alloc obj).heap.size (some ⟨w3.heap.size, 0, none⟩) 1 [⟨o, fl, t, n, (A, m, c)⟩] by
              obtain ⟨A', c', e', _, _, hr⟩ := (OwnRaws.one w3 w3.heap.size (Nat.le_refl _) ⟨o, fl, t, n, (A, m, c)⟩ HK3.out).reads
              dsimp only at e' hr
              rw [HOB3.out] at hr
              injection e' with e1 e2 e3
              subst e1
              exact hr)
            clear hq hk ho hst hobj
            obtain ⟨raws, hn1, hn2, hn3⟩ := rl_next HR.out.mid HOF.out HQ3.out HO3.out HS3.out obj
            have HN1 := Lib.hid hn1
            have HN2 := Lib.hid (show raws.length + 1 ≤ 1000000000 by have := HR.out.len; omega)
            have HN3 := Lib.hid hn3
            have HSZ3 := Lib.hid (show w.heap.size + 1 ≤ (w3.alloc obj).heap.size by have h1 := HR.out.mid.size; have h2 := HOF.out.size; have h3 := HO3.out.size; rw [World.size_alloc]; omega)
            clear hn1 hn2 hn3 r0 r1 r2 r3 r4 rf p0 p1 p2 p3 p4 pf plt
            unfold RawQ.val
            dsimp only
            go_wp2_with (at_builtin; (try rw [HOB3.out]); go_must (refine wpList_joinRaw (w := w3.alloc obj) HN1.out HSZ3.out HRAW.out HN2.out rfl (.tmp 46) (.tmp 49) 23 1 rfl Tryz.underlying23 rfl (by rfl) ?_); intro v6 w6 h1 h2 h3; (
              have HM6 := Lib.hid (HN3.out v6 w6 h1 h2 h3)
              clear h1 h2 h3))
            have HLR := Lib.hid (rl_done (fm := fm) (K := .rows) (RS := RS) (g := g') HM6.out HLL.out HA0.out HG1.out HG2.out HON2.out HRS2.out)
            have HLM := Lib.hid (rl_less HR.out.mid.pst HLR.out.mid.pst HA0.out HON2.out)
            go_roundw
            case rel => exact ⟨_, _, _, HLR⟩
            case measure => exact HLM.out
end Go.Proofs.YtomcdhmcjndioaaGreatDoor
end
section
namespace Go.Proofs.YtomcdhmcjndioaaGreatDoor
open Go.RowKit
set_option linter.unusedVariables false

set_option maxRecDepth 100000 in
set_option maxHeartbeats 4000000 in
theorem rquery_any (s : List UInt8) (b d f : Nat) (hs : s.length ≤ 1000) (hd : d ≤ 8) (hT : ∀ g, g ≤ f → RRowC s b d g) : RQryC s b d (f + 1) := by
  intro w a ha hf hp
  have hbw := heap_lt hp
  have hob : Below w.heap.size w (w.alloc qObj) := (Below.refl w.heap.size w).alloc (Nat.le_refl _) _
  have HT := Lib.hid (hT f (Nat.le_refl _) (w.alloc qObj) a ha (by omega) (hp.below hob hbw))
  have hT := Lib.hid hT
  have hin := run_in s f .row d a ha
  obtain ⟨R, hR⟩ : ∃ R, runQ s f .row d a = R := ⟨_, rfl⟩
  have hrun : runQ s (f + 1) .qry d a = R.then fun q b => runQ s f (.qrys [q]) d b := by
    rw [← hR]
    rfl
  rw [hrun]
  rw [hR] at HT hin
  obtain ⟨RS, hRS⟩ : ∃ RS : QRes, (R.then fun q b => runQ s f (.qrys [q]) d b) = RS := ⟨_, rfl⟩
  rw [hRS]
  have HRS := Lib.hid hRS
  have HOK := Lib.hid (show ∀ q0 a0, R = .ok q0 a0 → a0 ≤ s.length ∧ 1 ≤ a0 ∧ 3 * (s.length - a0) + 2 ≤ f from fun q0 a0 e => by
    have h1 := row_on s f d a q0 a0 ha (hR.trans e)
    have h2 : a0 ≤ s.length := by rw [e] at hin; exact hin.2
    omega)
  obtain ⟨fm, hfm⟩ : ∃ fm, f = fm := ⟨_, rfl⟩
  have HFM := Lib.hid hfm
  clear hp hR ha hf hin hob hrun hRS hfm
  go_enter Tryz.func17, Tryz.ntmps17
  go_wp2_with fail
  refine HT.out.mono ?_
  rintro e w1 ⟨⟨o, fl, t, n, A, m, c⟩, q, rfl, hq, hk, ho, hst⟩
  have hz : (w.alloc qObj).heap.size = w.heap.size + 1 := by simp
  have z1 : w.heap.size < w1.heap.size := Nat.lt_of_lt_of_le (by simp) ho.size
  obtain ⟨obj, hobj⟩ : ∃ obj : Obj, .cells #[.int .i64 o, .int .i64 fl, .string (ba t), .int .i64 n, .slice A m c] 25 = obj := ⟨_, rfl⟩
  have hql := QList.one (r := ⟨o, fl, t, n, (A, m, c)⟩) (show w.heap.size + 1 ≤ w1.heap.size from z1) (hq.more (by omega)) hk
  dsimp only at hql
  rw [hobj] at hql
  have hb1 : Below w1.heap.size w1 (w1.alloc obj) := (Below.refl w1.heap.size w1).alloc (Nat.le_refl _) _
  have hpst : RSt (w1.alloc obj) b s d q R := hst.off (F := fun _ => False) (Off.of_below hb1 (fun k h1 h2 => by omega)) (fun x => x)
  have HZ : QzAt (w1.alloc obj) w.heap.size := QzAt.below ((ho.block w.heap.size (by simp) (by omega)).trans (qzAt_new w)) hb1 z1
  have HST := Lib.hid (show RLRel w b s d fm .qrys RS (.slice (some ⟨w1.heap.size, 0, none⟩) 1 1) [q] R q (w1.alloc obj) from
    ⟨⟨hql, hpst, HZ, ho.alloc obj, hbw⟩, by simp, fun q0 a0 e => by
        obtain ⟨h1, h2, h3⟩ := HOK.out q0 a0 e
        have hq0 : q = q0 := by have h := hpst; rw [e] at h; exact h.1
        exact ⟨h1, by simpa using h2, f, by rw [HFM.out]; exact Nat.le_refl _, h3, by rw [← HRS.out, e, hq0]; rfl⟩, fun e0 a0 e => by rw [← HRS.out, e]; rfl⟩)
  have HOB := Lib.hid hobj
  clear hq hk ho hst hql hb1 hpst HZ hobj
  unfold RawQ.val
  dsimp only
  go_wp2_with fail
  rw [HOB.out]
  clear HOB HOK HT
  go_loopw [3] (fun v wr => ∃ (l : List Qry) (R : QRes) (q : Qry), Hid (RLRel w b s d fm .qrys RS v l R q wr)) (fun _ wr => rlLeft b s.length wr)
  case atStart => exact ⟨_, _, _, HST⟩
  case round =>
    obtain ⟨l, R1, q1, HR⟩ := hrel
    clear HST
    have HMR := Lib.hid HR.out.mid
    obtain ⟨r0, r1, r2, r3, r4, rf⟩ := HR.out.mid.res.cells
    have zr := HR.out.mid.size
    have hne5 : ¬ b = w.heap.size := by omega
    have hne6 : ¬ w.heap.size = b := by omega
    cases R1 with
    | err e0 a0 =>
      obtain ⟨he0, dd, hd1, hd2, hps⟩ := HR.out.mid.pst
      obtain ⟨p0, p1, p2, p3, p4, pf, plt⟩ := hps.cells
      have ge : ((e0 : Int) == 0) = false := by simp; omega
      have geb : ((e0 : Int) != 0) = true := by simp; omega
      clear hps
      by_cases h1 : l.length = 1
      · obtain ⟨q9, rfl⟩ := List.length_eq_one_iff.1 h1
        obtain ⟨ad, c9, ⟨o9, f9, y9, n9, A9, m9, c10⟩, rfl, hc9, hq9, hk9, hlt9, c0, c1, c2, c3, c4⟩ := HMR.out.lst.only
        dsimp only at c0 c1 c2 c3 c4
        have HQ9 := Lib.hid hq9
        have HK9 := Lib.hid hk9
        have HE9 := Lib.hid (show RS = _ from HR.out.isErr e0 a0 rfl)
        have HT9 := Lib.hid (show RSt (wr) b s d (joinQ 12 [q9]) (.err e0 a0) from HR.out.mid.pst)
        clear h1 hq9 hk9
        go_wp2
        refine bodyPost_ret (v := .agg #[.int .i64 o9, .int .i64 f9, .string (ba y9), .int .i64 n9, .slice A9 m9 c10]) (by simp [results, Tryz.results17, go_sem, r0, r1, r2, r3, r4]) rfl ?_
        rw [HE9.out]
        exact rterm_end (W := wr) (r := ⟨o9, f9, y9, n9, (A9, m9, c10)⟩) (B := w.heap.size + 1) hbw ((off_new w (fun k => k = b) qObj).trans HMR.out.off) (Nat.lt_succ_self _) (HQ9.out) HK9.out HT9.out (put5_off _ w.heap.size _ _ _ _ _)
      · obtain ⟨A9, c9, rfl, hq9⟩ := HMR.out.lst.parent 12
        have g1 : ((l.length : Int) == 1) = false := by simp; omega
        have HQ9 := Lib.hid hq9
        have HJ := Lib.hid (joinQ_more (op := 12) h1)
        have HE9 := Lib.hid (show RS = _ from HR.out.isErr e0 a0 rfl)
        have HT9 := Lib.hid (show RSt (wr) b s d (joinQ 12 l) (.err e0 a0) from HR.out.mid.pst)
        clear h1 hq9
        go_wp2
        refine bodyPost_ret (v := .agg #[.int .i64 12, .int .i64 0, .string ⟨#[]⟩, .int .i64 0, .slice A9 l.length c9]) (by simp [results, Tryz.results17, go_sem, r0, r1, r2, r3, r4]) rfl ?_
        rw [HE9.out]
        exact rterm_end (W := wr) (r := ⟨12, 0, [], 0, (A9, l.length, c9)⟩) (q := joinQ 12 l) (B := w.heap.size + 1) hbw ((off_new w (fun k => k = b) qObj).trans HMR.out.off) (Nat.lt_succ_self _) (by rw [HJ.out]; exact HQ9.out) ⟨⟨by dsimp only; omega, by dsimp only; omega⟩, ⟨by dsimp only; omega, by dsimp only; omega⟩, ⟨by dsimp only; have := HR.out.len; omega, by dsimp only; have := HR.out.len; omega⟩⟩ HT9.out (put5_off _ w.heap.size _ _ _ _ _)
    | ok q0 a0 =>
      obtain ⟨ha0, hll, g, hg1, hg2, hRSg⟩ := HR.out.isOk q0 a0 rfl
      obtain ⟨rfl, hpsr⟩ := HR.out.mid.pst
      obtain ⟨p0, p1, p2, p3, p4, pf, plt⟩ := hpsr.cells
      replace p3 : _ = some (Value.int .i64 0) := p3
      have HPK := Lib.hid (rpeek_any s a0 b wr (by omega) ha0 p0 p1)
      obtain ⟨jx, kx, Tx, qx, Ux, zx, hpx, hfin, hsht, h5n, h5y⟩ := rpcV_tells (s := s) (a := a0) (n := s.length)
      have HPX := Lib.hid hpx
      have HFIN := Lib.hid hfin
      have HSHT := Lib.hid hsht
      have H5N := Lib.hid h5n
      have H5Y := Lib.hid h5y
      have HA0 := Lib.hid ha0
      have HLL := Lib.hid hll
      have HRS0 := Lib.hid hRSg
      obtain ⟨g', rfl⟩ : ∃ g', g = g' + 1 := ⟨g - 1, by omega⟩
      have HG1 := Lib.hid (show g' + 1 ≤ fm from hg1)
      have HG2 := Lib.hid hg2
      clear hpx hfin hsht h5n h5y ha0 hll hg2 hRSg hpsr hg1
      go_wp2_with fail
      refine HPK.out.mono ?_
      rintro e v1 ⟨rfl, hb1⟩
      rw [HPX.out]
      have HM1 := Lib.hid (HMR.out.below hb1)
      have HB1 := Lib.hid hb1
      have zb1 := hb1.size
      clear hb1 r0 r1 r2 r3 r4 rf p0 p1 p2 p3 p4 pf plt HPK
      obtain ⟨r0, r1, r2, r3, r4, rf⟩ := HM1.out.res.cells
      have HPV := Lib.hid HM1.out.pst.2
      obtain ⟨p0, p1, p2, p3, p4, pf, plt⟩ := HPV.out.cells
      replace p3 : _ = some (Value.int .i64 0) := p3
      have zv := HM1.out.size
      have hnb : ¬ b = v1.heap.size := by omega
      have hnb2 : ¬ v1.heap.size = b := by omega
      by_cases h5 : kx = 5
      · subst h5
        obtain ⟨hj, t5, hT5, hor, han⟩ := H5Y.out rfl
        by_cases e1 : t5 = wOR
        · rw [decide_eq_true e1] at hor
          have HRSG := Lib.hid (HRS0.out.trans (qrys_on hor))
          have HJX := Lib.hid hj
          have HDS := Lib.hid (peek_bare hor)
          obtain rfl : Tx = ⟨#[79, 82]⟩ := by rw [hT5, e1]; rfl
          clear hj hT5 hor han e1
          have HM2 := Lib.hid (show RLMid w b s d _ l (.ok q1 a0) q1 (v1.alloc (.cells #[.int .i64 ((peekQ s a0).src : Nat), .int .i64 jx, .int .i64 5, .string ⟨#[79, 82]⟩, .bool qx, .string Ux, .bool zx] 51)) from HM1.out.below ((Below.refl _ _).alloc (Nat.le_refl _) _))
          have HOF := Lib.hid (show Off (fun k => k = b) wr ((v1.setCell ⟨b, 1, none⟩ (.int .i64 jx)).alloc (.cells #[.int .i64 ((peekQ s a0).src : Nat), .int .i64 jx, .int .i64 5, .string ⟨#[79, 82]⟩, .bool qx, .string Ux, .bool zx] 51)) from ((Off.of_below (F := fun k => k = b) HB1.out (fun k h1 h2 => by omega)).setCell (p := ⟨b, 1, none⟩) (.inl rfl) _).alloc _)
          have HPW := Lib.hid (show RPsr ((v1.setCell ⟨b, 1, none⟩ (.int .i64 jx)).alloc (.cells #[.int .i64 ((peekQ s a0).src : Nat), .int .i64 jx, .int .i64 5, .string ⟨#[79, 82]⟩, .bool qx, .string Ux, .bool zx] 51)) b s ((peekQ s a0).dst) d 0 0 from by rw [HJX.out]; exact (HPV.out.at_ _).below ((Below.refl _ _).alloc (Nat.le_refl _) _) (by rw [World.size_setCell]; exact plt))
          have HAT := Lib.hid (show ((peekQ s a0).dst) ≤ s.length from (peek_in s a0 HA0.out).2.2.2)
          have HCC := Lib.hid (hT.out g' (by have := HG1.out; have := HFM.out; omega) ((v1.setCell ⟨b, 1, none⟩ (.int .i64 jx)).alloc (.cells #[.int .i64 ((peekQ s a0).src : Nat), .int .i64 jx, .int .i64 5, .string ⟨#[79, 82]⟩, .bool qx, .string Ux, .bool zx] 51)) ((peekQ s a0).dst) HAT.out (by have := HDS.out; have := HG2.out; have := (peek_in s a0 HA0.out).2.2.2; omega) HPW.out)
          have HIN := Lib.hid (run_in s g' .row d ((peekQ s a0).dst) HAT.out)
          have HON := Lib.hid (fun q0 a9 (e9 : runQ s g' .row d ((peekQ s a0).dst) = .ok q0 a9) => row_on s g' d ((peekQ s a0).dst) q0 a9 HAT.out e9)
          obtain ⟨R, hR⟩ : ∃ R, runQ s g' .row d ((peekQ s a0).dst) = R := ⟨_, rfl⟩
          have HRR := Lib.hid hR
          rw [hR] at HCC HIN HON
          have HRS2 := Lib.hid (show RS = R.then fun q b => runQ s g' (.qrys (l ++ [q])) d b from HRSG.out.trans (by rw [← HRR.out]))
          have HON2 := Lib.hid (show ∀ q0 a9, R = .ok q0 a9 → a0 < a9 ∧ a9 ≤ s.length from fun q0 a9 e9 => by
            have h1 := HON.out q0 a9 e9
            have h2 := HIN.out
            rw [e9] at h2
            exact ⟨by have := HDS.out; omega, h2.2⟩)
          clear hR
          go_wp2_with fail
          refine HCC.out.mono ?_
          rintro e w3 ⟨⟨o, fl, t, n, A, m, c⟩, q, rfl, hq, hk, ho, hst⟩
          have HQ3 := Lib.hid hq
          have HK3 := Lib.hid hk
          have HO3 := Lib.hid ho
          have HS3 := Lib.hid hst
          have hob3 : ∃ obj : Obj, .cells #[.int .i64 o, .int .i64 fl, .string (ba t), .int .i64 n, .slice A m c] 25 = obj := ⟨_, rfl⟩
          obtain ⟨obj, hobj⟩ := hob3
          have HOB3 := Lib.hid hobj
          have HRAW := Lib.hid (show Raws (w3.alloc obj) (w3.alloc obj).heap.size (some ⟨w3.heap.size, 0, none⟩) 1 [⟨o, fl, t, n, (A, m, c)⟩] by
            obtain ⟨A', c', e', _, _, hr⟩ := (OwnRaws.one w3 w3.heap.size (Nat.le_refl _) ⟨o, fl, t, n, (A, m, c)⟩ HK3.out).reads
            dsimp only at e' hr
            rw [HOB3.out] at hr
            injection e' with e1 e2 e3
            subst e1
            exact hr)
          clear hq hk ho hst hobj
          obtain ⟨raws, hn1, hn2, hn3⟩ := rl_next HR.out.mid HOF.out HQ3.out HO3.out HS3.out obj
          have HN1 := Lib.hid hn1
          have HN2 := Lib.hid (show raws.length + 1 ≤ 1000000000 by have := HR.out.len; omega)
          have HN3 := Lib.hid hn3
          have HSZ3 := Lib.hid (show w.heap.size + 1 ≤ (w3.alloc obj).heap.size by have h1 := HR.out.mid.size; have h2 := HOF.out.size; have h3 := HO3.out.size; rw [World.size_alloc]; omega)
          clear hn1 hn2 hn3 r0 r1 r2 r3 r4 rf p0 p1 p2 p3 p4 pf plt
          unfold RawQ.val
          dsimp only
          go_wp2_with (at_builtin; (try rw [HOB3.out]); go_must (refine wpList_joinRaw (w := w3.alloc obj) HN1.out HSZ3.out HRAW.out HN2.out rfl (.tmp 28) (.tmp 31) 23 1 rfl Tryz.underlying23 rfl (by rfl) ?_); intro v6 w6 h1 h2 h3; (
            have HM6 := Lib.hid (HN3.out v6 w6 h1 h2 h3)
            clear h1 h2 h3))
          have HLR := Lib.hid (rl_done (fm := fm) (K := .qrys) (RS := RS) (g := g') HM6.out HLL.out HA0.out HG1.out HG2.out HON2.out HRS2.out)
          have HLM := Lib.hid (rl_less HR.out.mid.pst HLR.out.mid.pst HA0.out HON2.out)
          go_roundw
          case rel => exact ⟨_, _, _, HLR⟩
          case measure => exact HLM.out
        · rw [decide_eq_false e1] at hor
          have HE := Lib.hid (show RS = .ok (joinQ 12 l) a0 from HRS0.out.trans (qrys_end (by omega) hor))
          obtain rfl := hT5
          clear hj hor han
          have m0 : ((ba t5).toList == (⟨#[79, 82]⟩ : ByteArray).toList) = false ∧ ((⟨#[79, 82]⟩ : ByteArray).toList == (ba t5).toList) = false ∧ ¬ (ba t5).toList = (⟨#[79, 82]⟩ : ByteArray).toList ∧ ¬ (⟨#[79, 82]⟩ : ByteArray).toList = (ba t5).toList ∧ decide (ba t5 = (⟨#[79, 82]⟩ : ByteArray)) = false ∧ ¬ ba t5 = (⟨#[79, 82]⟩ : ByteArray) := str_not e1
          have t0 : (⟨#[79, 82]⟩ : ByteArray).toList = [79, 82] := ba_toList [79, 82]
          have mm0 := m0
          rw [t0] at m0
          obtain ⟨u01, u02, u03, u04, u05, u06⟩ := m0
          obtain ⟨v01, v02, v03, v04, -, -⟩ := mm0
          clear t0
          clear e1
          by_cases h1 : l.length = 1
          · obtain ⟨q9, rfl⟩ := List.length_eq_one_iff.1 h1
            obtain ⟨ad, c9, ⟨o9, f9, y9, n9, A9, m9, c10⟩, rfl, hc9, hq9, hk9, hlt9, c0, c1, c2, c3, c4⟩ := HM1.out.lst.only
            dsimp only at c0 c1 c2 c3 c4
            have HQ9 := Lib.hid hq9
            have HK9 := Lib.hid hk9
            have HE9 := Lib.hid (show RS = _ from HE.out)
            have HT9 := Lib.hid (show RSt (v1) b s d (joinQ 12 [q9]) (.ok (joinQ 12 [q9]) a0) from ⟨rfl, HPV.out⟩)
            clear h1 hq9 hk9
            go_wp2
            refine bodyPost_ret (v := .agg #[.int .i64 o9, .int .i64 f9, .string (ba y9), .int .i64 n9, .slice A9 m9 c10]) (by simp [results, Tryz.results17, go_sem, zv, r0, r1, r2, r3, r4]) rfl ?_
            rw [HE9.out]
            exact rterm_end (W := v1) (r := ⟨o9, f9, y9, n9, (A9, m9, c10)⟩) (B := w.heap.size + 1) hbw ((off_new w (fun k => k = b) qObj).trans HM1.out.off) (Nat.lt_succ_self _) (HQ9.out) HK9.out HT9.out ((put5_off _ w.heap.size _ _ _ _ _).alloc _)
          · obtain ⟨A9, c9, rfl, hq9⟩ := HM1.out.lst.parent 12
            have g1 : ((l.length : Int) == 1) = false := by simp; omega
            have HQ9 := Lib.hid hq9
            have HJ := Lib.hid (joinQ_more (op := 12) h1)
            have HE9 := Lib.hid (show RS = _ from HE.out)
            have HT9 := Lib.hid (show RSt (v1) b s d (joinQ 12 l) (.ok (joinQ 12 l) a0) from ⟨rfl, HPV.out⟩)
            clear h1 hq9
            go_wp2
            refine bodyPost_ret (v := .agg #[.int .i64 12, .int .i64 0, .string ⟨#[]⟩, .int .i64 0, .slice A9 l.length c9]) (by simp [results, Tryz.results17, go_sem, zv, r0, r1, r2, r3, r4]) rfl ?_
            rw [HE9.out]
            exact rterm_end (W := v1) (r := ⟨12, 0, [], 0, (A9, l.length, c9)⟩) (q := joinQ 12 l) (B := w.heap.size + 1) hbw ((off_new w (fun k => k = b) qObj).trans HM1.out.off) (Nat.lt_succ_self _) (by rw [HJ.out]; exact HQ9.out) ⟨⟨by dsimp only; omega, by dsimp only; omega⟩, ⟨by dsimp only; omega, by dsimp only; omega⟩, ⟨by dsimp only; have := HR.out.len; omega, by dsimp only; have := HR.out.len; omega⟩⟩ HT9.out ((put5_off _ w.heap.size _ _ _ _ _).alloc _)
      · have h5b : (kx == 5) = false := by simpa using h5
        have h5c : (kx != 5) = true := by simpa using h5
        have HE := Lib.hid (show RS = .ok (joinQ 12 l) a0 from HRS0.out.trans (qrys_end (by omega) (H5N.out h5b).1))
        by_cases h1 : l.length = 1
        · obtain ⟨q9, rfl⟩ := List.length_eq_one_iff.1 h1
          obtain ⟨ad, c9, ⟨o9, f9, y9, n9, A9, m9, c10⟩, rfl, hc9, hq9, hk9, hlt9, c0, c1, c2, c3, c4⟩ := HM1.out.lst.only
          dsimp only at c0 c1 c2 c3 c4
          have HQ9 := Lib.hid hq9
          have HK9 := Lib.hid hk9
          have HE9 := Lib.hid (show RS = _ from HE.out)
          have HT9 := Lib.hid (show RSt (v1) b s d (joinQ 12 [q9]) (.ok (joinQ 12 [q9]) a0) from ⟨rfl, HPV.out⟩)
          clear h1 hq9 hk9
          go_wp2
          refine bodyPost_ret (v := .agg #[.int .i64 o9, .int .i64 f9, .string (ba y9), .int .i64 n9, .slice A9 m9 c10]) (by simp [results, Tryz.results17, go_sem, zv, r0, r1, r2, r3, r4]) rfl ?_
          rw [HE9.out]
          exact rterm_end (W := v1) (r := ⟨o9, f9, y9, n9, (A9, m9, c10)⟩) (B := w.heap.size + 1) hbw ((off_new w (fun k => k = b) qObj).trans HM1.out.off) (Nat.lt_succ_self _) (HQ9.out) HK9.out HT9.out ((put5_off _ w.heap.size _ _ _ _ _).alloc _)
        · obtain ⟨A9, c9, rfl, hq9⟩ := HM1.out.lst.parent 12
          have g1 : ((l.length : Int) == 1) = false := by simp; omega
          have HQ9 := Lib.hid hq9
          have HJ := Lib.hid (joinQ_more (op := 12) h1)
          have HE9 := Lib.hid (show RS = _ from HE.out)
          have HT9 := Lib.hid (show RSt (v1) b s d (joinQ 12 l) (.ok (joinQ 12 l) a0) from ⟨rfl, HPV.out⟩)
          clear h1 hq9
          go_wp2
          refine bodyPost_ret (v := .agg #[.int .i64 12, .int .i64 0, .string ⟨#[]⟩, .int .i64 0, .slice A9 l.length c9]) (by simp [results, Tryz.results17, go_sem, zv, r0, r1, r2, r3, r4]) rfl ?_
          rw [HE9.out]
          exact rterm_end (W := v1) (r := ⟨12, 0, [], 0, (A9, l.length, c9)⟩) (q := joinQ 12 l) (B := w.heap.size + 1) hbw ((off_new w (fun k => k = b) qObj).trans HM1.out.off) (Nat.lt_succ_self _) (by rw [HJ.out]; exact HQ9.out) ⟨⟨by dsimp only; omega, by dsimp only; omega⟩, ⟨by dsimp only; omega, by dsimp only; omega⟩, ⟨by dsimp only; have := HR.out.len; omega, by dsimp only; have := HR.out.len; omega⟩⟩ HT9.out ((put5_off _ w.heap.size _ _ _ _ _).alloc _)
end Go.Proofs.YtomcdhmcjndioaaGreatDoor
end
