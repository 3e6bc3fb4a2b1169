/- Reference 37: term: one step of the induction. Layer 37: row (printed by gen_qrow.py). Layer 37: query (printed by gen_qrow.py). -/
import Derived.Test.YtomcdhmcjndioaaGreatDoorV25
import Derived.Test.YtomcdhmcjndioaaGreatDoorV23
section
namespace Go.Proofs.YtomcdhmcjndioaaGreatDoor
open Go.RowKit
set_option linter.unusedVariables false

theorem rterm_any (s : List UInt8) (b d f : Nat) (hs : s.length ≤ 1000) (hd : d ≤ 8) (hT : d < 8 → RTermC s b (d + 1) f) (hQ : d < 8 → RQryC s b (d + 1) f) : RTermC s b d (f + 1) := by
  intro w a ha hf hp
  have hin := peek_in s a ha
  obtain ⟨x, hx⟩ : ∃ x, peekQ s a = x := ⟨_, rfl⟩
  obtain ⟨src, dst, tok⟩ := x
  have hon : headQ tok ≠ 0 → a < dst := fun h => by
    have := peek_head (s := s) (a := a) (by rw [hx]; exact h)
    rw [hx] at this
    exact this
  rw [hx] at hin
  dsimp only at hin
  have hr : runQ s (f + 1) .term d a = if headQ tok = 0 then .err 2 src else if headQ tok = 3 then leafQ (valueQ tok) ⟨src, dst, tok⟩ else if 8 ≤ d then .err 10 src
      else if headQ tok = 1 then (runQ s f .term (d + 1) dst).then fun q b => .ok (.mk 13 0 [] 0 [q]) b
      else (runQ s f .qry (d + 1) dst).then fun q b => if shutB (peekQ s b).tok then .ok q (peekQ s b).dst else .err 2 (peekQ s b).src := by
    conv => lhs; unfold runQ
    rw [hx]
  rw [hr]
  have hnot : a < dst → d < 8 → ∀ W : World, RPsr W b s dst (d + 1) 0 0 → Calls Tryz.prog 52 #[.pointer (some ⟨b, 0, none⟩)] W (REnd W b s (d + 1) (runQ s f .term (d + 1) dst)) :=
    fun h1 h2 W h3 => hT h2 W dst hin.2.2.2 (by omega) h3
  have hbra : a < dst → d < 8 → ∀ W : World, RPsr W b s dst (d + 1) 0 0 → Calls Tryz.prog 17 #[.pointer (some ⟨b, 0, none⟩)] W (REnd W b s (d + 1) (runQ s f .qry (d + 1) dst)) :=
    fun h1 h2 W h3 => hQ h2 W dst hin.2.2.2 (by omega) h3
  have hpl : (runQ s f .qry (d + 1) dst).place s ≤ s.length := by
    have h := run_in s f .qry (d + 1) dst hin.2.2.2
    cases hc : runQ s f .qry (d + 1) dst with
    | ok q0 a0 => rw [hc] at h; exact h.2
    | err e0 a0 => exact Nat.le_refl _
  cases tok with
  | fin => exact rterm_fin s b d a src dst w hs ha hd hx hp
  | sht => exact rterm_sht s b d a src dst w hs ha hd hx hp
  | bad => exact rterm_bad s b d a src dst w hs ha hd hx hp
  | dash => exact rterm_dash s b d a src dst _ (hnot (hon (by decide))) w hs ha hd hx hp
  | opn => exact rterm_opn s b d a src dst _ (hbra (hon (by decide))) hpl w hs ha hd hx hp
  | quo t g raw =>
    have h1 := peek_words.1 t g raw hx
    cases g with
    | zero => exact rterm_quo s b d a src dst t raw (by omega) w hs ha hd hx hp
    | succ g =>
      obtain ⟨h58, hff, hlr⟩ := peek_fld hx
      exact rterm_fld s b d a src dst t raw g (by omega) h58 hff (by omega) (by rintro rfl; exact absurd h58 (by decide)) (by rintro rfl; exact absurd h58 (by decide)) (by rintro rfl; exact absurd h58 (by decide)) w hs ha hd hx hp
  | bare t =>
    have h1 := peek_words.2 t hx
    by_cases e1 : t = wAND
    · subst e1; exact rterm_and s b d a src dst w hs ha hd hx hp
    · by_cases e2 : t = wOR
      · subst e2; exact rterm_or s b d a src dst w hs ha hd hx hp
      · by_cases e3 : t = wNOT
        · subst e3; exact rterm_not s b d a src dst _ (hnot (hon (by decide))) w hs ha hd hx hp
        · have hh : headQ (.bare t) = 3 := by
            unfold headQ
            dsimp only
            rw [if_neg (not_or.2 ⟨e1, e2⟩), if_neg e3]
          rw [hh]
          exact rterm_bare s b d a src dst t (by omega) e1 e2 e3 w hs ha hd hx hp
end Go.Proofs.YtomcdhmcjndioaaGreatDoor
end
section
namespace Go.Proofs.YtomcdhmcjndioaaGreatDoor
open Go.RowKit
set_option linter.unusedVariables false

set_option maxRecDepth 100000 in
set_option maxHeartbeats 4000000 in
theorem qrow_any (s : List UInt8) (b d B0 f : Nat) (hs : s.length ≤ 1000) (hB : B0 ≤ b) (hT : ∀ g, g ≤ f → TermC s b d B0 g) : RowC s b d B0 (f + 1) := by
  intro w a ha hf hp ht
  have hbw := heap_lt hp
  have hob : Below w.heap.size w (w.alloc qObj) := (Below.refl w.heap.size w).alloc (Nat.le_refl _) _
  have ht0 : QTB (w.alloc qObj) B0 := ht.below ((Below.refl B0 w).alloc (by omega) _)
  have HT := Lib.hid (hT f (Nat.le_refl _) (w.alloc qObj) a ha (by omega) (hp.below hob hbw) ht0)
  have hT := Lib.hid hT
  have HTB := Lib.hid ht0
  have hin := run_in s f .term d a ha
  obtain ⟨R, hR⟩ : ∃ R, runQ s f .term d a = R := ⟨_, rfl⟩
  have hrun : runQ s (f + 1) .row d a = R.then fun q b => runQ s f (.rows [q]) d b := by
    rw [← hR]
    rfl
  rw [hrun]
  rw [hR] at HT hin
  obtain ⟨RS, hRS⟩ : ∃ RS : QRes, (R.then fun q b => runQ s f (.rows [q]) d b) = RS := ⟨_, rfl⟩
  rw [hRS]
  have HRS := Lib.hid hRS
  have hpl : R.place s ≤ s.length := by cases R with | ok q0 a0 => exact hin.2 | err e0 a0 => exact Nat.le_refl _
  have HOK := Lib.hid (show ∀ q0 a0, R = .ok q0 a0 → a0 ≤ s.length ∧ 1 ≤ a0 ∧ 3 * (s.length - a0) + 2 ≤ f from fun q0 a0 e => by
    have h1 := term_on s f d a q0 a0 ha (hR.trans e)
    have h2 : a0 ≤ s.length := by rw [e] at hin; exact hin.2
    omega)
  obtain ⟨fm, hfm⟩ : ∃ fm, f = fm := ⟨_, rfl⟩
  have HFM := Lib.hid hfm
  clear hp ht hR ha hf hin hob ht0 hrun hRS hfm
  go_enter Tryz.func29, Tryz.ntmps29
  go_wp2_with fail
  refine HT.out.mono ?_
  rintro e w1 ⟨⟨o, fl, t, n, A, m, c⟩, q, rfl, hq, hk, ho, hst⟩
  have hz : (w.alloc qObj).heap.size = w.heap.size + 1 := by simp
  have z1 : w.heap.size < w1.heap.size := Nat.lt_of_lt_of_le (by simp) ho.size
  obtain ⟨obj, hobj⟩ : ∃ obj : Obj, .cells #[.int .i64 o, .int .i64 fl, .string (ba t), .int .i64 n, .slice A m c] 25 = obj := ⟨_, rfl⟩
  have hql := QList.one (r := ⟨o, fl, t, n, (A, m, c)⟩) (show w.heap.size + 1 ≤ w1.heap.size from z1) (hq.more (by omega)) hk
  dsimp only at hql
  rw [hobj] at hql
  have hb1 : Below w1.heap.size w1 (w1.alloc obj) := (Below.refl w1.heap.size w1).alloc (Nat.le_refl _) _
  have hpst : PSt (w.alloc qObj) (w1.alloc obj) b s d q R := hst.kept (F := fun _ => False) (Off.of_below hb1 (fun k h1 h2 => by omega)) (fun x => x) (fun _ x => x.elim)
  have htb : QTB (w1.alloc obj) B0 := (HTB.out.off hB (by simp; omega) ho).below (hb1.mono (show B0 ≤ w1.heap.size by omega))
  have HZ : QzAt (w1.alloc obj) w.heap.size := QzAt.below ((ho.block w.heap.size (by simp) (by omega)).trans (qzAt_new w)) hb1 z1
  obtain ⟨flt, hps⟩ := hpst.psr
  obtain ⟨p0, p1, p2, p3, pf, plt⟩ := hps.cells
  have HPK := Lib.hid (qpeek_any s (R.place s) b (w1.alloc obj) (by omega) hpl (htb.tabs (by have := heap_lt hps; omega)) p0 p1)
  have HMID := Lib.hid (show LpMid w b B0 s d (.slice (some ⟨w1.heap.size, 0, none⟩) 1 1) [q] R q (w1.alloc obj) from ⟨hql, hpst, HZ, ho.alloc obj, htb, hbw, hB⟩)
  have HOB := Lib.hid hobj
  clear hq hk ho hst hql hb1 hpst htb HZ hps p0 p1 p2 p3 pf plt hobj
  unfold RawQ.val
  dsimp only
  go_wp2_with fail
  rw [HOB.out]
  refine HPK.out.mono ?_
  rintro e w2 ⟨rfl, hb2⟩
  obtain ⟨k, j, T, ff, zz, hpc, -, -⟩ := pcV_shut (peekQ s (R.place s))
  rw [hpc]
  obtain ⟨P, hP⟩ : ∃ P : Obj, .cells #[.int .i64 k, .int .i64 ((peekQ s (R.place s)).src : Nat), .int .i64 j, .string T, .int .i64 ff, .bool zz] 41 = P := ⟨_, rfl⟩
  have hb3 : Below (w1.alloc obj).heap.size (w1.alloc obj) (w2.alloc P) := hb2.alloc hb2.size P
  have z2 : w1.heap.size < w2.heap.size := Nat.lt_of_lt_of_le (by simp) hb2.size
  have HST := Lib.hid (show LpRel w b B0 s d fm .rows RS (.slice (some ⟨w1.heap.size, 0, none⟩) 1 1) w2.heap.size [q] R q (w2.alloc P) from
    ⟨HMID.out.below hb3, ⟨k, j, T, ff, zz, hpc, by rw [← hP]; exact (MapKept.heap_alloc w2 _).1⟩, by omega, by simp, fun q0 a0 e => by
        obtain ⟨h1, h2, h3⟩ := HOK.out q0 a0 e
        have hq0 : q = q0 := by have h := HMID.out.pst; rw [e] at h; exact h.1
        exact ⟨h1, by simpa using h2, f, by rw [HFM.out]; exact Nat.le_refl _, h3, by rw [← HRS.out, e, hq0]; rfl⟩, fun e0 a0 e => by rw [← HRS.out, e]; rfl⟩)
  have HPO := Lib.hid hP
  clear hP hb3 hb2 hpc
  go_wp2_with fail
  rw [HPO.out]
  clear HPK HMID HOB HPO HOK HT HTB
  go_loopw [3, 4] (fun v px wr => ∃ (gx : Nat) (l : List Qry) (R : QRes) (q : Qry), px = .pointer (some ⟨gx, 0, none⟩) ∧ Hid (LpRel w b B0 s d fm .rows RS v gx l R q wr)) (fun _ _ wr => lpLeft b s.length wr)
  case atStart => exact ⟨_, _, _, _, rfl, HST⟩
  case round =>
    obtain ⟨gx, l, R1, q1, rfl, HR⟩ := hrel
    clear HST
    have HJN := Lib.hid (fun W (hW : Below wr.heap.size wr W) => qjoined_any 11 (by omega) _ l _ W (HR.out.mid.lst.below hW) (by have := HR.out.len; omega))
    obtain ⟨r0, r1, r2, r3, r4, rf⟩ := HR.out.mid.res.cells
    obtain ⟨kx, jx, Tx, fx, zx, hpx, hbx⟩ := HR.out.box
    obtain ⟨x0, x1, x2, x3, x4, x5, xf, xl⟩ := hbx.cells
    cases R1 with
    | err e0 a0 =>
      obtain ⟨g, hg1, hg2, hg3, hg4⟩ := HR.out.mid.pst
      obtain ⟨p0, p1, p2, p3, pf, plt⟩ := hg3.cells
      clear hpx hbx hg3 hg4
      go_wp2_with fail
      refine (HJN.out wr (Below.refl wr.heap.size wr)).mono ?_
      rintro e w5 ⟨⟨o5, f5, y5, n5, A5, m5, c5⟩, rfl, hq5, hk5, hb5⟩
      have HM5 := Lib.hid (HR.out.mid.below (Below.trans (Below.refl wr.heap.size wr) (hb5.mono (Below.size (Below.refl wr.heap.size wr)))))
      have HQ5 := Lib.hid hq5
      have HK5 := Lib.hid hk5
      clear hq5 hk5 hb5 r0 r1 r2 r3 r4 rf p0 p1 p2 p3 pf plt x0 x1 x2 x3 x4 x5 xf xl
      obtain ⟨r0, r1, r2, r3, r4, rf⟩ := HM5.out.res.cells
      unfold RawQ.val
      dsimp only
      go_wp2
      refine bodyPost_ret (v := .agg #[.int .i64 o5, .int .i64 f5, .string (ba y5), .int .i64 n5, .slice A5 m5 c5]) (by simp [results, Tryz.results29, go_sem, r0, r1, r2, r3, r4]) rfl ?_
      rw [show RS = _ from HR.out.isErr e0 a0 rfl]
      exact term_end (r := ⟨o5, f5, y5, n5, (A5, m5, c5)⟩) (B := w.heap.size + 1) hbw ((off_new w (fun k => k = b) qObj).trans HM5.out.off) (Nat.lt_succ_self _) HQ5.out HK5.out (HM5.out.pst.base (Nat.le_of_lt (by simp))) (PSt.gap HM5.out.pst (by simp)) (put5_off w5 w.heap.size _ _ _ _ _)
    | ok q0 a0 =>
      have hpx : pcV (peekQ s a0) = .agg #[.int .i64 kx, .int .i64 ((peekQ s a0).src : Nat), .int .i64 jx, .string Tx, .int .i64 fx, .bool zx] := hpx
      have HBX := Lib.hid (show XBox wr gx kx ((peekQ s a0).src : Nat) jx Tx fx zx from hbx)
      obtain ⟨k0, k2, kd⟩ := pcV_tells hpx
      obtain ⟨ha0, hll, g, hg1, hg2, hRSg⟩ := HR.out.isOk q0 a0 rfl
      obtain ⟨rfl, hpsr⟩ := HR.out.mid.pst
      obtain ⟨p0, p1, p2, p3, pf, plt⟩ := hpsr.cells
      have HPX := Lib.hid (show pcV (peekQ s a0) = .agg #[.int .i64 kx, .int .i64 ((peekQ s a0).src : Nat), .int .i64 jx, .string Tx, .int .i64 fx, .bool zx] from hpx)
      have HKD := Lib.hid kd
      have HA0 := Lib.hid ha0
      have HLL := Lib.hid hll
      have HRS0 := Lib.hid hRSg
      have HGG := Lib.hid hg2
      have hne : ¬ gx = b := by have := HR.out.ord; intro e; subst e; exact absurd (show XBox wr gx _ _ _ _ _ _ from HBX.out) (by unfold XBox; rw [show wr.heap[gx]? = _ from hpsr]; intro h; injection h with h; injection h with h1 h2; cases h2)
      have hne2 : ¬ b = gx := fun e => hne e.symm
      have hne3 : ¬ gx = w.heap.size := by have := HR.out.ord; omega
      have hne4 : ¬ w.heap.size = gx := fun e => hne3 e.symm
      have hne5 : ¬ b = w.heap.size := by omega
      have hne6 : ¬ w.heap.size = b := by omega
      obtain ⟨g', rfl⟩ : ∃ g', g = g' + 1 := ⟨g - 1, by omega⟩
      have HG1 := Lib.hid (show g' + 1 ≤ fm from hg1)
      have HG2 := Lib.hid hg2
      have HFIN := Lib.hid (show finB (peekQ s a0).tok = (kx == 0) from k0.symm)
      have HSHT := Lib.hid (show shutB (peekQ s a0).tok = (kx == 2) from k2.symm)
      have HTC := hT
      clear hpx hbx kd ha0 hll hg2 hRSg hpsr hg1 k0 k2
      by_cases h0 : (kx == 0) = true
      · have HE := Lib.hid (show RS = .ok (joinQ 11 l) a0 from HRS0.out.trans (rows_end (by omega) (by rw [stopRow_is, HFIN.out, h0]; rfl)))
        obtain rfl : kx = 0 := by simpa using h0
        go_wp2_with fail
        refine (HJN.out wr (Below.refl wr.heap.size wr)).mono ?_
        rintro e w5 ⟨⟨o5, f5, y5, n5, A5, m5, c5⟩, rfl, hq5, hk5, hb5⟩
        have HM5 := Lib.hid (HR.out.mid.below (Below.trans (Below.refl wr.heap.size wr) (hb5.mono (Below.size (Below.refl wr.heap.size wr)))))
        have HQ5 := Lib.hid hq5
        have HK5 := Lib.hid hk5
        clear hq5 hk5 hb5 r0 r1 r2 r3 r4 rf p0 p1 p2 p3 pf plt x0 x1 x2 x3 x4 x5 xf xl
        obtain ⟨r0, r1, r2, r3, r4, rf⟩ := HM5.out.res.cells
        unfold RawQ.val
        dsimp only
        go_wp2
        refine bodyPost_ret (v := .agg #[.int .i64 o5, .int .i64 f5, .string (ba y5), .int .i64 n5, .slice A5 m5 c5]) (by simp [results, Tryz.results29, go_sem, r0, r1, r2, r3, r4]) rfl ?_
        rw [show RS = _ from HE.out]
        exact term_end (r := ⟨o5, f5, y5, n5, (A5, m5, c5)⟩) (B := w.heap.size + 1) hbw ((off_new w (fun k => k = b) qObj).trans HM5.out.off) (Nat.lt_succ_self _) HQ5.out HK5.out (show PSt w w5 b s d (joinQ 11 l) (.ok (joinQ 11 l) a0) from ⟨rfl, HM5.out.pst.2⟩) (fun e a he => by cases he) (put5_off w5 w.heap.size _ _ _ _ _)
      · have h0 : (kx == 0) = false := by simpa using h0
        have h0b : (kx != 0) = true := by simpa using h0
        have h0c : ¬ kx = 0 := by simpa using h0
        by_cases h2 : (kx == 2) = true
        · have HE := Lib.hid (show RS = .ok (joinQ 11 l) a0 from HRS0.out.trans (rows_end (by omega) (by rw [stopRow_is, HSHT.out, h2, HFIN.out, h0]; rfl)))
          obtain rfl : kx = 2 := by simpa using h2
          go_wp2_with fail
          refine (HJN.out wr (Below.refl wr.heap.size wr)).mono ?_
          rintro e w5 ⟨⟨o5, f5, y5, n5, A5, m5, c5⟩, rfl, hq5, hk5, hb5⟩
          have HM5 := Lib.hid (HR.out.mid.below (Below.trans (Below.refl wr.heap.size wr) (hb5.mono (Below.size (Below.refl wr.heap.size wr)))))
          have HQ5 := Lib.hid hq5
          have HK5 := Lib.hid hk5
          clear hq5 hk5 hb5 r0 r1 r2 r3 r4 rf p0 p1 p2 p3 pf plt x0 x1 x2 x3 x4 x5 xf xl
          obtain ⟨r0, r1, r2, r3, r4, rf⟩ := HM5.out.res.cells
          unfold RawQ.val
          dsimp only
          go_wp2
          refine bodyPost_ret (v := .agg #[.int .i64 o5, .int .i64 f5, .string (ba y5), .int .i64 n5, .slice A5 m5 c5]) (by simp [results, Tryz.results29, go_sem, r0, r1, r2, r3, r4]) rfl ?_
          rw [show RS = _ from HE.out]
          exact term_end (r := ⟨o5, f5, y5, n5, (A5, m5, c5)⟩) (B := w.heap.size + 1) hbw ((off_new w (fun k => k = b) qObj).trans HM5.out.off) (Nat.lt_succ_self _) HQ5.out HK5.out (show PSt w w5 b s d (joinQ 11 l) (.ok (joinQ 11 l) a0) from ⟨rfl, HM5.out.pst.2⟩) (fun e a he => by cases he) (put5_off w5 w.heap.size _ _ _ _ _)
        · have h2 : (kx == 2) = false := by simpa using h2
          have h2b : (kx != 2) = true := by simpa using h2
          have h2c : ¬ kx = 2 := by simpa using h2
          have hi := qis_any (peekQ s a0) wOR wr
          rw [HPX.out] at hi
          have HI1 := Lib.hid hi
          clear hi
          go_wp2_with fail
          refine HI1.out.mono ?_
          rintro e v1 ⟨rfl, hbv⟩
          have HV1 := Lib.hid (show Below wr.heap.size wr v1 from hbv)
          have HRV1 := Lib.hid (HR.out.below HV1.out)
          clear hbv r0 r1 r2 r3 r4 rf p0 p1 p2 p3 pf plt x0 x1 x2 x3 x4 x5 xf xl
          obtain ⟨r0, r1, r2, r3, r4, rf⟩ := HRV1.out.mid.res.cells
          obtain ⟨p0, p1, p2, p3, pf, plt⟩ := (HRV1.out.mid.pst.2).cells
          obtain ⟨x0, x1, x2, x3, x4, x5, xf, xl⟩ := (show XBox v1 gx _ _ _ _ _ _ from (HV1.out.block gx (heap_lt HBX.out)).trans HBX.out).cells

          by_cases hor : isBare wOR (peekQ s a0).tok = true
          · rw [hor]
            have HE := Lib.hid (show RS = .ok (joinQ 11 l) a0 from HRS0.out.trans (rows_end (by omega) (by rw [stopRow_is, hor, Bool.or_true])))
            go_wp2_with fail
            refine (HJN.out v1 HV1.out).mono ?_
            rintro e w5 ⟨⟨o5, f5, y5, n5, A5, m5, c5⟩, rfl, hq5, hk5, hb5⟩
            have HM5 := Lib.hid (HR.out.mid.below (Below.trans HV1.out (hb5.mono (Below.size HV1.out))))
            have HQ5 := Lib.hid hq5
            have HK5 := Lib.hid hk5
            clear hq5 hk5 hb5 r0 r1 r2 r3 r4 rf p0 p1 p2 p3 pf plt x0 x1 x2 x3 x4 x5 xf xl
            obtain ⟨r0, r1, r2, r3, r4, rf⟩ := HM5.out.res.cells
            unfold RawQ.val
            dsimp only
            go_wp2
            refine bodyPost_ret (v := .agg #[.int .i64 o5, .int .i64 f5, .string (ba y5), .int .i64 n5, .slice A5 m5 c5]) (by simp [results, Tryz.results29, go_sem, r0, r1, r2, r3, r4]) rfl ?_
            rw [show RS = _ from HE.out]
            exact term_end (r := ⟨o5, f5, y5, n5, (A5, m5, c5)⟩) (B := w.heap.size + 1) hbw ((off_new w (fun k => k = b) qObj).trans HM5.out.off) (Nat.lt_succ_self _) HQ5.out HK5.out (show PSt w w5 b s d (joinQ 11 l) (.ok (joinQ 11 l) a0) from ⟨rfl, HM5.out.pst.2⟩) (fun e a he => by cases he) (put5_off w5 w.heap.size _ _ _ _ _)
          · have hor : isBare wOR (peekQ s a0).tok = false := by simpa using hor
            rw [hor]
            have HRSG := Lib.hid (HRS0.out.trans (rows_on (by rw [stopRow_is, HFIN.out, h0, HSHT.out, h2, hor]; rfl)))
            clear hor
            have hi := qis_any (peekQ s a0) wAND v1
            rw [HPX.out] at hi
            have HI2 := Lib.hid hi
            clear hi
            go_wp2_with fail
            refine HI2.out.mono ?_
            rintro e v2 ⟨rfl, hbv⟩
            have HV2 := Lib.hid (show Below wr.heap.size wr v2 from HV1.out.trans (hbv.mono (Below.size HV1.out)))
            have HRV2 := Lib.hid (HR.out.below HV2.out)
            clear hbv r0 r1 r2 r3 r4 rf p0 p1 p2 p3 pf plt x0 x1 x2 x3 x4 x5 xf xl
            obtain ⟨r0, r1, r2, r3, r4, rf⟩ := HRV2.out.mid.res.cells
            obtain ⟨p0, p1, p2, p3, pf, plt⟩ := (HRV2.out.mid.pst.2).cells
            obtain ⟨x0, x1, x2, x3, x4, x5, xf, xl⟩ := (show XBox v2 gx _ _ _ _ _ _ from (HV2.out.block gx (heap_lt HBX.out)).trans HBX.out).cells

            by_cases han : isBare wAND (peekQ s a0).tok = true
            · have HJX := Lib.hid (HKD.out wAND han)
              have HAN := Lib.hid han
              have HDS := Lib.hid (peek_bare han)
              rw [han]
              clear han
              have HOF := Lib.hid (show Off (fun k => k = b) wr (v2.setCell ⟨b, 1, none⟩ (.int .i64 jx)) from (Off.of_below (F := fun k => k = b) HV2.out (fun k h1 h2 => by omega)).setCell (p := ⟨b, 1, none⟩) (.inl rfl) _)
              have HPW := Lib.hid (show Psr (v2.setCell ⟨b, 1, none⟩ (.int .i64 jx)) b s ((peekQ s a0).dst) d (.pointer none) from by rw [HJX.out]; exact (HRV2.out.mid.pst.2).at_ _)
              have HAT := Lib.hid (show ((peekQ s a0).dst) ≤ s.length from (peek_in s a0 HA0.out).2.2.2)
              have HCC := Lib.hid (hT.out g' (by have := HG1.out; have := HFM.out; omega) (v2.setCell ⟨b, 1, none⟩ (.int .i64 jx)) ((peekQ s a0).dst) HAT.out (by have := HDS.out; have := HGG.out; have := (peek_in s a0 HA0.out).2.2.2; omega) HPW.out (HR.out.mid.tab.off HR.out.mid.ord.2 (heap_lt HR.out.mid.pst.2) HOF.out))
              have HIN := Lib.hid (run_in s g' .term d ((peekQ s a0).dst) HAT.out)
              have HON := Lib.hid (fun q0 a9 (e9 : runQ s g' .term d ((peekQ s a0).dst) = .ok q0 a9) => term_on s g' d ((peekQ s a0).dst) q0 a9 HAT.out e9)
              obtain ⟨R, hR⟩ : ∃ R, runQ s g' .term d ((peekQ s a0).dst) = R := ⟨_, rfl⟩
              have HRR := Lib.hid hR
              rw [hR] at HCC HIN HON
              have HRS2 := Lib.hid (show RS = R.then fun q b => runQ s g' (.rows (l ++ [q])) d b from HRSG.out.trans (by rw [← HRR.out, HAN.out]; first | done | rfl))
              have HON2 := Lib.hid (show ∀ q0 a9, R = .ok q0 a9 → a0 < a9 ∧ a9 ≤ s.length from fun q0 a9 e9 => by
                have h1 := HON.out q0 a9 e9
                have h2 := HIN.out
                rw [e9] at h2
                exact ⟨by have := HDS.out; omega, h2.2⟩)
              have HPL := Lib.hid (show R.place s ≤ s.length from by
                cases hc : R with
                | ok q9 a9 => exact (HON2.out q9 a9 hc).2
                | err e9 a9 => exact Nat.le_refl _)
              clear hR
              go_wp2_with fail
              refine HCC.out.mono ?_
              rintro e w3 ⟨⟨o, fl, t, n, A, m, c⟩, q, rfl, hq, hk, ho, hst⟩
              have HQ3 := Lib.hid hq
              have HK3 := Lib.hid hk
              have HO3 := Lib.hid ho
              have HS3 := Lib.hid hst
              have hob3 : ∃ obj : Obj, .cells #[.int .i64 o, .int .i64 fl, .string (ba t), .int .i64 n, .slice A m c] 25 = obj := ⟨_, rfl⟩
              obtain ⟨obj, hobj⟩ := hob3
              have HOB3 := Lib.hid hobj
              have HRAW := Lib.hid (show Raws (w3.alloc obj) (w3.alloc obj).heap.size (some ⟨w3.heap.size, 0, none⟩) 1 [⟨o, fl, t, n, (A, m, c)⟩] by
                obtain ⟨A', c', e', _, _, hr⟩ := (OwnRaws.one w3 w3.heap.size (Nat.le_refl _) ⟨o, fl, t, n, (A, m, c)⟩ HK3.out).reads
                dsimp only at e' hr
                rw [HOB3.out] at hr
                injection e' with e1 e2 e3
                subst e1
                exact hr)
              clear hq hk ho hst hobj
              obtain ⟨raws, hn1, hn2, hn3⟩ := lp_next HR.out.mid HOF.out HQ3.out HK3.out HO3.out HS3.out obj
              have HN1 := Lib.hid hn1
              have HN2 := Lib.hid (show raws.length + 1 ≤ 1000000000 by have := HR.out.len; omega)
              have HN3 := Lib.hid hn3
              have HSZ3 := Lib.hid (show w.heap.size + 1 ≤ (w3.alloc obj).heap.size by have h1 := HR.out.mid.size; have h2 := HOF.out.size; have h3 := HO3.out.size; rw [World.size_alloc]; omega)
              clear hn1 hn2 hn3 r0 r1 r2 r3 r4 rf p0 p1 p2 p3 pf plt x0 x1 x2 x3 x4 x5 xf xl
              unfold RawQ.val
              dsimp only
              go_wp2_with (at_builtin; (try rw [HOB3.out]); go_must (refine wpList_joinRaw (w := w3.alloc obj) HN1.out HSZ3.out HRAW.out HN2.out rfl (.tmp 39) (.tmp 42) 23 1 rfl Tryz.underlying23 rfl (by rfl) ?_); intro v6 w6 h1 h2 h3; (
                have HM6 := Lib.hid (HN3.out v6 w6 h1 h2 h3)
                clear h1 h2 h3
                have hgb : gx ≠ b := by have := HR.out.ord; omega
                obtain ⟨x0, x1, x2, x3, x4, x5, xf, xl⟩ := (HM6.out.2 gx _ _ _ _ _ _ hgb HBX.out).cells
                have HX6 := Lib.hid (HM6.out.2 gx _ _ _ _ _ _ hgb HBX.out)
                obtain ⟨P6, hP6⟩ : ∃ P : Obj, .cells #[.int .i64 kx, .int .i64 ((peekQ s a0).src : Nat), .int .i64 jx, .string Tx, .int .i64 fx, .bool zx] 41 = P := ⟨_, rfl⟩
                have HP6 := Lib.hid hP6
                have hb6 : Below w6.heap.size w6 (w6.alloc P6) := (Below.refl _ _).alloc (Nat.le_refl _) _
                have HB6 := Lib.hid hb6
                have hm7 := HM6.out.1.below hb6
                obtain ⟨fl7, hps7⟩ := hm7.pst.psr
                obtain ⟨p0, p1, p2, p3, pf, plt⟩ := hps7.cells
                have HPK := Lib.hid (qpeek_any s (R.place s) b (w6.alloc P6) (by omega) HPL.out (hm7.tab.tabs (by omega)) p0 p1)
                obtain ⟨k7, j7, T7, f7, z7, hpc7, -, -⟩ := pcV_shut (peekQ s (R.place s))
                have HPC7 := Lib.hid hpc7
                clear hb6 hm7 hps7 p0 p1 p2 p3 pf plt hP6 hpc7))
              rw [HP6.out]
              refine HPK.out.mono ?_
              rintro e w8 ⟨rfl, hb8⟩
              rw [HPC7.out]
              have HB8 := Lib.hid (HB6.out.trans (hb8.mono (Below.size HB6.out)))
              have HX8 := Lib.hid (show XBox w8 w6.heap.size kx ((peekQ s a0).src : Nat) jx Tx fx zx from (hb8.block w6.heap.size (by simp)).trans (by rw [← HP6.out]; exact (MapKept.heap_alloc w6 _).1))
              obtain ⟨y0, y1, y2, y3, y4, y5, yf, yl⟩ := HX8.out.cells
              clear hb8 x0 x1 x2 x3 x4 x5 xf xl
              go_wp2
              have HLR := Lib.hid (lp_done (fm := fm) (K := .rows) (RS := RS) (g := g') HM6.out.1 (put6_below w6.heap.size _ _ _ _ _ _ HB8.out (Nat.le_refl _)) ⟨k7, j7, T7, f7, z7, HPC7.out, put6_box HX8.out _ _ _ _ _ _⟩ (by have := HM6.out.1.size; omega) HLL.out HA0.out HG1.out HG2.out HON2.out HRS2.out)
              have HLM := Lib.hid (lp_less HR.out.mid.pst HLR.out.mid.pst HA0.out HON2.out)
              go_roundw
              case rel => exact ⟨_, _, _, _, rfl, HLR⟩
              case measure => exact HLM.out
            · have han : isBare wAND (peekQ s a0).tok = false := by simpa using han
              have HAN := Lib.hid han
              rw [han]
              clear han
              have HOF := Lib.hid (show Off (fun k => k = b) wr v2 from Off.of_below HV2.out (fun k h1 h2 => by omega))
              have HPW := Lib.hid (show Psr v2 b s (a0) d (.pointer none) from HRV2.out.mid.pst.2)
              have HAT := Lib.hid (show (a0) ≤ s.length from HA0.out)
              have HCC := Lib.hid (hT.out g' (by have := HG1.out; have := HFM.out; omega) v2 (a0) HAT.out (by have := HGG.out; have := HA0.out; omega) HPW.out (HR.out.mid.tab.off HR.out.mid.ord.2 (heap_lt HR.out.mid.pst.2) HOF.out))
              have HIN := Lib.hid (run_in s g' .term d (a0) HAT.out)
              have HON := Lib.hid (fun q0 a9 (e9 : runQ s g' .term d (a0) = .ok q0 a9) => term_on s g' d (a0) q0 a9 HAT.out e9)
              obtain ⟨R, hR⟩ : ∃ R, runQ s g' .term d (a0) = R := ⟨_, rfl⟩
              have HRR := Lib.hid hR
              rw [hR] at HCC HIN HON
              have HRS2 := Lib.hid (show RS = R.then fun q b => runQ s g' (.rows (l ++ [q])) d b from HRSG.out.trans (by rw [← HRR.out, HAN.out]; first | done | rfl))
              have HON2 := Lib.hid (show ∀ q0 a9, R = .ok q0 a9 → a0 < a9 ∧ a9 ≤ s.length from fun q0 a9 e9 => by
                have h1 := HON.out q0 a9 e9
                have h2 := HIN.out
                rw [e9] at h2
                exact ⟨h1, h2.2⟩)
              have HPL := Lib.hid (show R.place s ≤ s.length from by
                cases hc : R with
                | ok q9 a9 => exact (HON2.out q9 a9 hc).2
                | err e9 a9 => exact Nat.le_refl _)
              clear hR
              go_wp2_with fail
              refine HCC.out.mono ?_
              rintro e w3 ⟨⟨o, fl, t, n, A, m, c⟩, q, rfl, hq, hk, ho, hst⟩
              have HQ3 := Lib.hid hq
              have HK3 := Lib.hid hk
              have HO3 := Lib.hid ho
              have HS3 := Lib.hid hst
              have hob3 : ∃ obj : Obj, .cells #[.int .i64 o, .int .i64 fl, .string (ba t), .int .i64 n, .slice A m c] 25 = obj := ⟨_, rfl⟩
              obtain ⟨obj, hobj⟩ := hob3
              have HOB3 := Lib.hid hobj
              have HRAW := Lib.hid (show Raws (w3.alloc obj) (w3.alloc obj).heap.size (some ⟨w3.heap.size, 0, none⟩) 1 [⟨o, fl, t, n, (A, m, c)⟩] by
                obtain ⟨A', c', e', _, _, hr⟩ := (OwnRaws.one w3 w3.heap.size (Nat.le_refl _) ⟨o, fl, t, n, (A, m, c)⟩ HK3.out).reads
                dsimp only at e' hr
                rw [HOB3.out] at hr
                injection e' with e1 e2 e3
                subst e1
                exact hr)
              clear hq hk ho hst hobj
              obtain ⟨raws, hn1, hn2, hn3⟩ := lp_next HR.out.mid HOF.out HQ3.out HK3.out HO3.out HS3.out obj
              have HN1 := Lib.hid hn1
              have HN2 := Lib.hid (show raws.length + 1 ≤ 1000000000 by have := HR.out.len; omega)
              have HN3 := Lib.hid hn3
              have HSZ3 := Lib.hid (show w.heap.size + 1 ≤ (w3.alloc obj).heap.size by have h1 := HR.out.mid.size; have h2 := HOF.out.size; have h3 := HO3.out.size; rw [World.size_alloc]; omega)
              clear hn1 hn2 hn3 r0 r1 r2 r3 r4 rf p0 p1 p2 p3 pf plt x0 x1 x2 x3 x4 x5 xf xl
              unfold RawQ.val
              dsimp only
              go_wp2_with (at_builtin; (try rw [HOB3.out]); go_must (refine wpList_joinRaw (w := w3.alloc obj) HN1.out HSZ3.out HRAW.out HN2.out rfl (.tmp 39) (.tmp 42) 23 1 rfl Tryz.underlying23 rfl (by rfl) ?_); intro v6 w6 h1 h2 h3; (
                have HM6 := Lib.hid (HN3.out v6 w6 h1 h2 h3)
                clear h1 h2 h3
                have hgb : gx ≠ b := by have := HR.out.ord; omega
                obtain ⟨x0, x1, x2, x3, x4, x5, xf, xl⟩ := (HM6.out.2 gx _ _ _ _ _ _ hgb HBX.out).cells
                have HX6 := Lib.hid (HM6.out.2 gx _ _ _ _ _ _ hgb HBX.out)
                obtain ⟨P6, hP6⟩ : ∃ P : Obj, .cells #[.int .i64 kx, .int .i64 ((peekQ s a0).src : Nat), .int .i64 jx, .string Tx, .int .i64 fx, .bool zx] 41 = P := ⟨_, rfl⟩
                have HP6 := Lib.hid hP6
                have hb6 : Below w6.heap.size w6 (w6.alloc P6) := (Below.refl _ _).alloc (Nat.le_refl _) _
                have HB6 := Lib.hid hb6
                have hm7 := HM6.out.1.below hb6
                obtain ⟨fl7, hps7⟩ := hm7.pst.psr
                obtain ⟨p0, p1, p2, p3, pf, plt⟩ := hps7.cells
                have HPK := Lib.hid (qpeek_any s (R.place s) b (w6.alloc P6) (by omega) HPL.out (hm7.tab.tabs (by omega)) p0 p1)
                obtain ⟨k7, j7, T7, f7, z7, hpc7, -, -⟩ := pcV_shut (peekQ s (R.place s))
                have HPC7 := Lib.hid hpc7
                clear hb6 hm7 hps7 p0 p1 p2 p3 pf plt hP6 hpc7))
              rw [HP6.out]
              refine HPK.out.mono ?_
              rintro e w8 ⟨rfl, hb8⟩
              rw [HPC7.out]
              have HB8 := Lib.hid (HB6.out.trans (hb8.mono (Below.size HB6.out)))
              have HX8 := Lib.hid (show XBox w8 w6.heap.size kx ((peekQ s a0).src : Nat) jx Tx fx zx from (hb8.block w6.heap.size (by simp)).trans (by rw [← HP6.out]; exact (MapKept.heap_alloc w6 _).1))
              obtain ⟨y0, y1, y2, y3, y4, y5, yf, yl⟩ := HX8.out.cells
              clear hb8 x0 x1 x2 x3 x4 x5 xf xl
              go_wp2
              have HLR := Lib.hid (lp_done (fm := fm) (K := .rows) (RS := RS) (g := g') HM6.out.1 (put6_below w6.heap.size _ _ _ _ _ _ HB8.out (Nat.le_refl _)) ⟨k7, j7, T7, f7, z7, HPC7.out, put6_box HX8.out _ _ _ _ _ _⟩ (by have := HM6.out.1.size; omega) HLL.out HA0.out HG1.out HG2.out HON2.out HRS2.out)
              have HLM := Lib.hid (lp_less HR.out.mid.pst HLR.out.mid.pst HA0.out HON2.out)
              go_roundw
              case rel => exact ⟨_, _, _, _, rfl, HLR⟩
              case measure => exact HLM.out
end Go.Proofs.YtomcdhmcjndioaaGreatDoor
end
section
namespace Go.Proofs.YtomcdhmcjndioaaGreatDoor
open Go.RowKit
set_option linter.unusedVariables false

set_option maxRecDepth 100000 in
set_option maxHeartbeats 4000000 in
theorem qquery_any (s : List UInt8) (b d B0 f : Nat) (hs : s.length ≤ 1000) (hB : B0 ≤ b) (hT : ∀ g, g ≤ f → RowC s b d B0 g) : QryC s b d B0 (f + 1) := by
  intro w a ha hf hp ht
  have hbw := heap_lt hp
  have hob : Below w.heap.size w (w.alloc qObj) := (Below.refl w.heap.size w).alloc (Nat.le_refl _) _
  have ht0 : QTB (w.alloc qObj) B0 := ht.below ((Below.refl B0 w).alloc (by omega) _)
  have HT := Lib.hid (hT f (Nat.le_refl _) (w.alloc qObj) a ha (by omega) (hp.below hob hbw) ht0)
  have hT := Lib.hid hT
  have HTB := Lib.hid ht0
  have hin := run_in s f .row d a ha
  obtain ⟨R, hR⟩ : ∃ R, runQ s f .row d a = R := ⟨_, rfl⟩
  have hrun : runQ s (f + 1) .qry d a = R.then fun q b => runQ s f (.qrys [q]) d b := by
    rw [← hR]
    rfl
  rw [hrun]
  rw [hR] at HT hin
  obtain ⟨RS, hRS⟩ : ∃ RS : QRes, (R.then fun q b => runQ s f (.qrys [q]) d b) = RS := ⟨_, rfl⟩
  rw [hRS]
  have HRS := Lib.hid hRS
  have hpl : R.place s ≤ s.length := by cases R with | ok q0 a0 => exact hin.2 | err e0 a0 => exact Nat.le_refl _
  have HOK := Lib.hid (show ∀ q0 a0, R = .ok q0 a0 → a0 ≤ s.length ∧ 1 ≤ a0 ∧ 3 * (s.length - a0) + 2 ≤ f from fun q0 a0 e => by
    have h1 := row_on s f d a q0 a0 ha (hR.trans e)
    have h2 : a0 ≤ s.length := by rw [e] at hin; exact hin.2
    omega)
  obtain ⟨fm, hfm⟩ : ∃ fm, f = fm := ⟨_, rfl⟩
  have HFM := Lib.hid hfm
  clear hp ht hR ha hf hin hob ht0 hrun hRS hfm
  go_enter Tryz.func14, Tryz.ntmps14
  go_wp2_with fail
  refine HT.out.mono ?_
  rintro e w1 ⟨⟨o, fl, t, n, A, m, c⟩, q, rfl, hq, hk, ho, hst⟩
  have hz : (w.alloc qObj).heap.size = w.heap.size + 1 := by simp
  have z1 : w.heap.size < w1.heap.size := Nat.lt_of_lt_of_le (by simp) ho.size
  obtain ⟨obj, hobj⟩ : ∃ obj : Obj, .cells #[.int .i64 o, .int .i64 fl, .string (ba t), .int .i64 n, .slice A m c] 25 = obj := ⟨_, rfl⟩
  have hql := QList.one (r := ⟨o, fl, t, n, (A, m, c)⟩) (show w.heap.size + 1 ≤ w1.heap.size from z1) (hq.more (by omega)) hk
  dsimp only at hql
  rw [hobj] at hql
  have hb1 : Below w1.heap.size w1 (w1.alloc obj) := (Below.refl w1.heap.size w1).alloc (Nat.le_refl _) _
  have hpst : PSt (w.alloc qObj) (w1.alloc obj) b s d q R := hst.kept (F := fun _ => False) (Off.of_below hb1 (fun k h1 h2 => by omega)) (fun x => x) (fun _ x => x.elim)
  have htb : QTB (w1.alloc obj) B0 := (HTB.out.off hB (by simp; omega) ho).below (hb1.mono (show B0 ≤ w1.heap.size by omega))
  have HZ : QzAt (w1.alloc obj) w.heap.size := QzAt.below ((ho.block w.heap.size (by simp) (by omega)).trans (qzAt_new w)) hb1 z1
  obtain ⟨flt, hps⟩ := hpst.psr
  obtain ⟨p0, p1, p2, p3, pf, plt⟩ := hps.cells
  have HPK := Lib.hid (qpeek_any s (R.place s) b (w1.alloc obj) (by omega) hpl (htb.tabs (by have := heap_lt hps; omega)) p0 p1)
  have HMID := Lib.hid (show LpMid w b B0 s d (.slice (some ⟨w1.heap.size, 0, none⟩) 1 1) [q] R q (w1.alloc obj) from ⟨hql, hpst, HZ, ho.alloc obj, htb, hbw, hB⟩)
  have HOB := Lib.hid hobj
  clear hq hk ho hst hql hb1 hpst htb HZ hps p0 p1 p2 p3 pf plt hobj
  unfold RawQ.val
  dsimp only
  go_wp2_with fail
  rw [HOB.out]
  refine HPK.out.mono ?_
  rintro e w2 ⟨rfl, hb2⟩
  obtain ⟨k, j, T, ff, zz, hpc, -, -⟩ := pcV_shut (peekQ s (R.place s))
  rw [hpc]
  obtain ⟨P, hP⟩ : ∃ P : Obj, .cells #[.int .i64 k, .int .i64 ((peekQ s (R.place s)).src : Nat), .int .i64 j, .string T, .int .i64 ff, .bool zz] 41 = P := ⟨_, rfl⟩
  have hb3 : Below (w1.alloc obj).heap.size (w1.alloc obj) (w2.alloc P) := hb2.alloc hb2.size P
  have z2 : w1.heap.size < w2.heap.size := Nat.lt_of_lt_of_le (by simp) hb2.size
  have HST := Lib.hid (show LpRel w b B0 s d fm .qrys RS (.slice (some ⟨w1.heap.size, 0, none⟩) 1 1) w2.heap.size [q] R q (w2.alloc P) from
    ⟨HMID.out.below hb3, ⟨k, j, T, ff, zz, hpc, by rw [← hP]; exact (MapKept.heap_alloc w2 _).1⟩, by omega, by simp, fun q0 a0 e => by
        obtain ⟨h1, h2, h3⟩ := HOK.out q0 a0 e
        have hq0 : q = q0 := by have h := HMID.out.pst; rw [e] at h; exact h.1
        exact ⟨h1, by simpa using h2, f, by rw [HFM.out]; exact Nat.le_refl _, h3, by rw [← HRS.out, e, hq0]; rfl⟩, fun e0 a0 e => by rw [← HRS.out, e]; rfl⟩)
  have HPO := Lib.hid hP
  clear hP hb3 hb2 hpc
  go_wp2_with fail
  rw [HPO.out]
  clear HPK HMID HOB HPO HOK HT HTB
  go_loopw [3, 4] (fun v px wr => ∃ (gx : Nat) (l : List Qry) (R : QRes) (q : Qry), px = .pointer (some ⟨gx, 0, none⟩) ∧ Hid (LpRel w b B0 s d fm .qrys RS v gx l R q wr)) (fun _ _ wr => lpLeft b s.length wr)
  case atStart => exact ⟨_, _, _, _, rfl, HST⟩
  case round =>
    obtain ⟨gx, l, R1, q1, rfl, HR⟩ := hrel
    clear HST
    have HJN := Lib.hid (fun W (hW : Below wr.heap.size wr W) => qjoined_any 12 (by omega) _ l _ W (HR.out.mid.lst.below hW) (by have := HR.out.len; omega))
    obtain ⟨r0, r1, r2, r3, r4, rf⟩ := HR.out.mid.res.cells
    obtain ⟨kx, jx, Tx, fx, zx, hpx, hbx⟩ := HR.out.box
    obtain ⟨x0, x1, x2, x3, x4, x5, xf, xl⟩ := hbx.cells
    cases R1 with
    | err e0 a0 =>
      obtain ⟨g, hg1, hg2, hg3, hg4⟩ := HR.out.mid.pst
      obtain ⟨p0, p1, p2, p3, pf, plt⟩ := hg3.cells
      clear hpx hbx hg3 hg4
      go_wp2_with fail
      refine (HJN.out wr (Below.refl wr.heap.size wr)).mono ?_
      rintro e w5 ⟨⟨o5, f5, y5, n5, A5, m5, c5⟩, rfl, hq5, hk5, hb5⟩
      have HM5 := Lib.hid (HR.out.mid.below (Below.trans (Below.refl wr.heap.size wr) (hb5.mono (Below.size (Below.refl wr.heap.size wr)))))
      have HQ5 := Lib.hid hq5
      have HK5 := Lib.hid hk5
      clear hq5 hk5 hb5 r0 r1 r2 r3 r4 rf p0 p1 p2 p3 pf plt x0 x1 x2 x3 x4 x5 xf xl
      obtain ⟨r0, r1, r2, r3, r4, rf⟩ := HM5.out.res.cells
      unfold RawQ.val
      dsimp only
      go_wp2
      refine bodyPost_ret (v := .agg #[.int .i64 o5, .int .i64 f5, .string (ba y5), .int .i64 n5, .slice A5 m5 c5]) (by simp [results, Tryz.results14, go_sem, r0, r1, r2, r3, r4]) rfl ?_
      rw [show RS = _ from HR.out.isErr e0 a0 rfl]
      exact term_end (r := ⟨o5, f5, y5, n5, (A5, m5, c5)⟩) (B := w.heap.size + 1) hbw ((off_new w (fun k => k = b) qObj).trans HM5.out.off) (Nat.lt_succ_self _) HQ5.out HK5.out (HM5.out.pst.base (Nat.le_of_lt (by simp))) (PSt.gap HM5.out.pst (by simp)) (put5_off w5 w.heap.size _ _ _ _ _)
    | ok q0 a0 =>
      have hpx : pcV (peekQ s a0) = .agg #[.int .i64 kx, .int .i64 ((peekQ s a0).src : Nat), .int .i64 jx, .string Tx, .int .i64 fx, .bool zx] := hpx
      have HBX := Lib.hid (show XBox wr gx kx ((peekQ s a0).src : Nat) jx Tx fx zx from hbx)
      obtain ⟨k0, k2, kd⟩ := pcV_tells hpx
      obtain ⟨ha0, hll, g, hg1, hg2, hRSg⟩ := HR.out.isOk q0 a0 rfl
      obtain ⟨rfl, hpsr⟩ := HR.out.mid.pst
      obtain ⟨p0, p1, p2, p3, pf, plt⟩ := hpsr.cells
      have HPX := Lib.hid (show pcV (peekQ s a0) = .agg #[.int .i64 kx, .int .i64 ((peekQ s a0).src : Nat), .int .i64 jx, .string Tx, .int .i64 fx, .bool zx] from hpx)
      have HKD := Lib.hid kd
      have HA0 := Lib.hid ha0
      have HLL := Lib.hid hll
      have HRS0 := Lib.hid hRSg
      have HGG := Lib.hid hg2
      have hne : ¬ gx = b := by have := HR.out.ord; intro e; subst e; exact absurd (show XBox wr gx _ _ _ _ _ _ from HBX.out) (by unfold XBox; rw [show wr.heap[gx]? = _ from hpsr]; intro h; injection h with h; injection h with h1 h2; cases h2)
      have hne2 : ¬ b = gx := fun e => hne e.symm
      have hne3 : ¬ gx = w.heap.size := by have := HR.out.ord; omega
      have hne4 : ¬ w.heap.size = gx := fun e => hne3 e.symm
      have hne5 : ¬ b = w.heap.size := by omega
      have hne6 : ¬ w.heap.size = b := by omega
      obtain ⟨g', rfl⟩ : ∃ g', g = g' + 1 := ⟨g - 1, by omega⟩
      have HG1 := Lib.hid (show g' + 1 ≤ fm from hg1)
      have HG2 := Lib.hid hg2
      have HFIN := Lib.hid (show finB (peekQ s a0).tok = (kx == 0) from k0.symm)
      have HSHT := Lib.hid (show shutB (peekQ s a0).tok = (kx == 2) from k2.symm)
      have HTC := hT
      clear hpx hbx kd ha0 hll hg2 hRSg hpsr hg1 k0 k2
      have hi := qis_any (peekQ s a0) wOR wr
      rw [HPX.out] at hi
      have HI1 := Lib.hid hi
      clear hi
      go_wp2_with fail
      refine HI1.out.mono ?_
      rintro e v1 ⟨rfl, hbv⟩
      have HV1 := Lib.hid (show Below wr.heap.size wr v1 from hbv)
      have HRV1 := Lib.hid (HR.out.below HV1.out)
      clear hbv r0 r1 r2 r3 r4 rf p0 p1 p2 p3 pf plt x0 x1 x2 x3 x4 x5 xf xl
      obtain ⟨r0, r1, r2, r3, r4, rf⟩ := HRV1.out.mid.res.cells
      obtain ⟨p0, p1, p2, p3, pf, plt⟩ := (HRV1.out.mid.pst.2).cells
      obtain ⟨x0, x1, x2, x3, x4, x5, xf, xl⟩ := (show XBox v1 gx _ _ _ _ _ _ from (HV1.out.block gx (heap_lt HBX.out)).trans HBX.out).cells

      by_cases hor : isBare wOR (peekQ s a0).tok = true
      · have HJX := Lib.hid (HKD.out wOR hor)
        have HDS := Lib.hid (peek_bare hor)
        have HRSG := Lib.hid (HRS0.out.trans (qrys_on hor))
        rw [hor]
        clear hor
        have HOF := Lib.hid (show Off (fun k => k = b) wr (v1.setCell ⟨b, 1, none⟩ (.int .i64 jx)) from (Off.of_below (F := fun k => k = b) HV1.out (fun k h1 h2 => by omega)).setCell (p := ⟨b, 1, none⟩) (.inl rfl) _)
        have HPW := Lib.hid (show Psr (v1.setCell ⟨b, 1, none⟩ (.int .i64 jx)) b s ((peekQ s a0).dst) d (.pointer none) from by rw [HJX.out]; exact (HRV1.out.mid.pst.2).at_ _)
        have HAT := Lib.hid (show ((peekQ s a0).dst) ≤ s.length from (peek_in s a0 HA0.out).2.2.2)
        have HCC := Lib.hid (hT.out g' (by have := HG1.out; have := HFM.out; omega) (v1.setCell ⟨b, 1, none⟩ (.int .i64 jx)) ((peekQ s a0).dst) HAT.out (by have := HDS.out; have := HGG.out; have := (peek_in s a0 HA0.out).2.2.2; omega) HPW.out (HR.out.mid.tab.off HR.out.mid.ord.2 (heap_lt HR.out.mid.pst.2) HOF.out))
        have HIN := Lib.hid (run_in s g' .row d ((peekQ s a0).dst) HAT.out)
        have HON := Lib.hid (fun q0 a9 (e9 : runQ s g' .row d ((peekQ s a0).dst) = .ok q0 a9) => row_on s g' d ((peekQ s a0).dst) q0 a9 HAT.out e9)
        obtain ⟨R, hR⟩ : ∃ R, runQ s g' .row d ((peekQ s a0).dst) = R := ⟨_, rfl⟩
        have HRR := Lib.hid hR
        rw [hR] at HCC HIN HON
        have HRS2 := Lib.hid (show RS = R.then fun q b => runQ s g' (.qrys (l ++ [q])) d b from HRSG.out.trans (by rw [← HRR.out]))
        have HON2 := Lib.hid (show ∀ q0 a9, R = .ok q0 a9 → a0 < a9 ∧ a9 ≤ s.length from fun q0 a9 e9 => by
          have h1 := HON.out q0 a9 e9
          have h2 := HIN.out
          rw [e9] at h2
          exact ⟨by have := HDS.out; omega, h2.2⟩)
        have HPL := Lib.hid (show R.place s ≤ s.length from by
          cases hc : R with
          | ok q9 a9 => exact (HON2.out q9 a9 hc).2
          | err e9 a9 => exact Nat.le_refl _)
        clear hR
        go_wp2_with fail
        refine HCC.out.mono ?_
        rintro e w3 ⟨⟨o, fl, t, n, A, m, c⟩, q, rfl, hq, hk, ho, hst⟩
        have HQ3 := Lib.hid hq
        have HK3 := Lib.hid hk
        have HO3 := Lib.hid ho
        have HS3 := Lib.hid hst
        have hob3 : ∃ obj : Obj, .cells #[.int .i64 o, .int .i64 fl, .string (ba t), .int .i64 n, .slice A m c] 25 = obj := ⟨_, rfl⟩
        obtain ⟨obj, hobj⟩ := hob3
        have HOB3 := Lib.hid hobj
        have HRAW := Lib.hid (show Raws (w3.alloc obj) (w3.alloc obj).heap.size (some ⟨w3.heap.size, 0, none⟩) 1 [⟨o, fl, t, n, (A, m, c)⟩] by
          obtain ⟨A', c', e', _, _, hr⟩ := (OwnRaws.one w3 w3.heap.size (Nat.le_refl _) ⟨o, fl, t, n, (A, m, c)⟩ HK3.out).reads
          dsimp only at e' hr
          rw [HOB3.out] at hr
          injection e' with e1 e2 e3
          subst e1
          exact hr)
        clear hq hk ho hst hobj
        obtain ⟨raws, hn1, hn2, hn3⟩ := lp_next HR.out.mid HOF.out HQ3.out HK3.out HO3.out HS3.out obj
        have HN1 := Lib.hid hn1
        have HN2 := Lib.hid (show raws.length + 1 ≤ 1000000000 by have := HR.out.len; omega)
        have HN3 := Lib.hid hn3
        have HSZ3 := Lib.hid (show w.heap.size + 1 ≤ (w3.alloc obj).heap.size by have h1 := HR.out.mid.size; have h2 := HOF.out.size; have h3 := HO3.out.size; rw [World.size_alloc]; omega)
        clear hn1 hn2 hn3 r0 r1 r2 r3 r4 rf p0 p1 p2 p3 pf plt x0 x1 x2 x3 x4 x5 xf xl
        unfold RawQ.val
        dsimp only
        go_wp2_with (at_builtin; (try rw [HOB3.out]); go_must (refine wpList_joinRaw (w := w3.alloc obj) HN1.out HSZ3.out HRAW.out HN2.out rfl (.tmp 26) (.tmp 29) 23 1 rfl Tryz.underlying23 rfl (by rfl) ?_); intro v6 w6 h1 h2 h3; (
          have HM6 := Lib.hid (HN3.out v6 w6 h1 h2 h3)
          clear h1 h2 h3
          have hgb : gx ≠ b := by have := HR.out.ord; omega
          obtain ⟨x0, x1, x2, x3, x4, x5, xf, xl⟩ := (HM6.out.2 gx _ _ _ _ _ _ hgb HBX.out).cells
          have HX6 := Lib.hid (HM6.out.2 gx _ _ _ _ _ _ hgb HBX.out)
          obtain ⟨P6, hP6⟩ : ∃ P : Obj, .cells #[.int .i64 kx, .int .i64 ((peekQ s a0).src : Nat), .int .i64 jx, .string Tx, .int .i64 fx, .bool zx] 41 = P := ⟨_, rfl⟩
          have HP6 := Lib.hid hP6
          have hb6 : Below w6.heap.size w6 (w6.alloc P6) := (Below.refl _ _).alloc (Nat.le_refl _) _
          have HB6 := Lib.hid hb6
          have hm7 := HM6.out.1.below hb6
          obtain ⟨fl7, hps7⟩ := hm7.pst.psr
          obtain ⟨p0, p1, p2, p3, pf, plt⟩ := hps7.cells
          have HPK := Lib.hid (qpeek_any s (R.place s) b (w6.alloc P6) (by omega) HPL.out (hm7.tab.tabs (by omega)) p0 p1)
          obtain ⟨k7, j7, T7, f7, z7, hpc7, -, -⟩ := pcV_shut (peekQ s (R.place s))
          have HPC7 := Lib.hid hpc7
          clear hb6 hm7 hps7 p0 p1 p2 p3 pf plt hP6 hpc7))
        rw [HP6.out]
        refine HPK.out.mono ?_
        rintro e w8 ⟨rfl, hb8⟩
        rw [HPC7.out]
        have HB8 := Lib.hid (HB6.out.trans (hb8.mono (Below.size HB6.out)))
        have HX8 := Lib.hid (show XBox w8 w6.heap.size kx ((peekQ s a0).src : Nat) jx Tx fx zx from (hb8.block w6.heap.size (by simp)).trans (by rw [← HP6.out]; exact (MapKept.heap_alloc w6 _).1))
        obtain ⟨y0, y1, y2, y3, y4, y5, yf, yl⟩ := HX8.out.cells
        clear hb8 x0 x1 x2 x3 x4 x5 xf xl
        go_wp2
        have HLR := Lib.hid (lp_done (fm := fm) (K := .qrys) (RS := RS) (g := g') HM6.out.1 (put6_below w6.heap.size _ _ _ _ _ _ HB8.out (Nat.le_refl _)) ⟨k7, j7, T7, f7, z7, HPC7.out, put6_box HX8.out _ _ _ _ _ _⟩ (by have := HM6.out.1.size; omega) HLL.out HA0.out HG1.out HG2.out HON2.out HRS2.out)
        have HLM := Lib.hid (lp_less HR.out.mid.pst HLR.out.mid.pst HA0.out HON2.out)
        go_roundw
        case rel => exact ⟨_, _, _, _, rfl, HLR⟩
        case measure => exact HLM.out
      · have hor : isBare wOR (peekQ s a0).tok = false := by simpa using hor
        have HE := Lib.hid (show RS = .ok (joinQ 12 l) a0 from HRS0.out.trans (qrys_end (by omega) hor))
        rw [hor]
        go_wp2_with fail
        refine (HJN.out v1 HV1.out).mono ?_
        rintro e w5 ⟨⟨o5, f5, y5, n5, A5, m5, c5⟩, rfl, hq5, hk5, hb5⟩
        have HM5 := Lib.hid (HR.out.mid.below (Below.trans HV1.out (hb5.mono (Below.size HV1.out))))
        have HQ5 := Lib.hid hq5
        have HK5 := Lib.hid hk5
        clear hq5 hk5 hb5 r0 r1 r2 r3 r4 rf p0 p1 p2 p3 pf plt x0 x1 x2 x3 x4 x5 xf xl
        obtain ⟨r0, r1, r2, r3, r4, rf⟩ := HM5.out.res.cells
        unfold RawQ.val
        dsimp only
        go_wp2
        refine bodyPost_ret (v := .agg #[.int .i64 o5, .int .i64 f5, .string (ba y5), .int .i64 n5, .slice A5 m5 c5]) (by simp [results, Tryz.results14, go_sem, r0, r1, r2, r3, r4]) rfl ?_
        rw [show RS = _ from HE.out]
        exact term_end (r := ⟨o5, f5, y5, n5, (A5, m5, c5)⟩) (B := w.heap.size + 1) hbw ((off_new w (fun k => k = b) qObj).trans HM5.out.off) (Nat.lt_succ_self _) HQ5.out HK5.out (show PSt w w5 b s d (joinQ 12 l) (.ok (joinQ 12 l) a0) from ⟨rfl, HM5.out.pst.2⟩) (fun e a he => by cases he) (put5_off w5 w.heap.size _ _ _ _ _)
end Go.Proofs.YtomcdhmcjndioaaGreatDoor
end
