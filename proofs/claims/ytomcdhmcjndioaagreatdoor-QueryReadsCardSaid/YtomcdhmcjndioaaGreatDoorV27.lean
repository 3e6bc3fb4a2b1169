/- Layer 37: the parser's contracts by induction; Parse. Reference 37: its parser's contracts by induction; Parse. Reference 37: the contract of Same. -/
import Derived.Test.YtomcdhmcjndioaaGreatDoorV26
import Derived.Test.YtomcdhmcjndioaaGreatDoorV24
import Derived.Test.YtomcdhmcjndioaaGreatDoorV07
import Derived.Test.YtomcdhmcjndioaaGreatDoorV16
section
namespace Go.Proofs.YtomcdhmcjndioaaGreatDoor
open Go.RowKit
set_option linter.unusedVariables false

theorem q_all (s : List UInt8) (b B0 : Nat) (hs : s.length ≤ 1000) (hB : B0 ≤ b) : ∀ (F f : Nat), f ≤ F → ∀ d, d ≤ 8 → TermC s b d B0 f ∧ RowC s b d B0 f ∧ QryC s b d B0 f
  | F, 0, _, d, _ => ⟨fun w a _ h => by omega, fun w a _ h => by omega, fun w a _ h => by omega⟩
  | 0, f + 1, h, _, _ => by omega
  | F + 1, f + 1, h, d, hd => by
    have ih := q_all s b B0 hs hB F
    exact ⟨qterm_any s b d B0 f hs hd hB (fun h8 => (ih f (by omega) (d + 1) (by omega)).1) (fun h8 => (ih f (by omega) (d + 1) (by omega)).2.2),
      qrow_any s b d B0 f hs hB (fun g hg => (ih g (by omega) d hd).1), qquery_any s b d B0 f hs hB (fun g hg => (ih g (by omega) d hd).2.1)⟩
/-- What Parse hands back. -/
def PaPost (w : World) (R : Qry × Nat × Nat) (e : Ending) (w' : World) : Prop :=
  ∃ r, e = .returned (.tuple #[RawQ.val r, .int .i64 (R.2.1 : Nat), .int .i64 (R.2.2 : Nat)]) ∧ QOwn w' w.heap.size r R.1 ∧ RawOk r ∧ Below w.heap.size w w'
theorem finB_kind {x : Pce} {k i j f : Int} {T : ByteArray} {z : Bool} (h : pcV x = .agg #[.int .i64 k, .int .i64 i, .int .i64 j, .string T, .int .i64 f, .bool z]) : (k == 0) = finB x.tok := (pcV_tells h).1
theorem parseQ_long {s : List UInt8} (h : 1000 < s.length) : parseQ s = (noQ, 16, 0) := by unfold parseQ; rw [if_pos h]
theorem parseQ_all {s : List UInt8} (h : s.length ≤ 1000) (h0 : finB (peekQ s 0).tok = true) : parseQ s = (.mk 1 0 [] 0 [], 0, 0) := by unfold parseQ; rw [if_neg (by omega), if_pos h0]
/-- What a parsed query is when more follows it, or nothing. -/
def restR (s : List UInt8) (R : QRes) : QRes := R.then fun q a => if finB (peekQ s a).tok then .ok q a else .err 2 (peekQ s a).src
theorem parseQ_run {s : List UInt8} (h : s.length ≤ 1000) (h0 : finB (peekQ s 0).tok = false) : parseQ s = match restR s (runQ s (3 * s.length + 9) .qry 0 0) with | .ok q a => (q, 0, 0) | .err e a => (noQ, e, a) := by
  unfold parseQ restR
  rw [if_neg (by omega), h0]
  cases runQ s (3 * s.length + 9) .qry 0 0 with
  | ok q a =>
    show (if finB (peekQ s a).tok = true then (q, 0, 0) else (noQ, 2, (peekQ s a).src)) = match (if finB (peekQ s a).tok = true then QRes.ok q a else QRes.err 2 (peekQ s a).src) with | .ok q a => (q, 0, 0) | .err e a => (noQ, e, a)
    split <;> rfl
  | err e a => rfl
theorem restR_in {s : List UInt8} {R : QRes} (h : InQ s 0 R) : InQ s 0 (restR s R) := by
  unfold restR
  refine h.bind fun q b _ h1 h2 => ?_
  split
  · exact ⟨Nat.le_refl _, h2⟩
  · exact ⟨(peek_in s b h2).2.1, .inl rfl⟩
/-- Fields of a struct's box, in a world that has not touched it. -/
theorem err_nat {R : QRes} {e a : Nat} {RR : Qry × Nat × Nat} (h : RR = match R with | .ok q a => (q, 0, 0) | .err e a => (noQ, e, a)) (hR : R = .err e a) : RR = (noQ, e, a) := by rw [h, hR]
theorem ok_nat {R : QRes} {q : Qry} {a : Nat} {RR : Qry × Nat × Nat} (h : RR = match R with | .ok q a => (q, 0, 0) | .err e a => (noQ, e, a)) (hR : R = .ok q a) : RR = (q, 0, 0) := by rw [h, hR]
theorem piece_kind (W : World) (k i j f : Int) (T : ByteArray) (z : Bool) : (Instr.field 41 (.agg #[.int .i64 k, .int .i64 i, .int .i64 j, .string T, .int .i64 f, .bool z]) 0).run Tryz.prog W = .ok (.int .i64 k) W := by
  simp [Instr.field, asAgg, go_sem]
theorem finB_end (s : List UInt8) : finB (peekQ s s.length).tok = true := by
  unfold peekQ
  rw [List.drop_of_length_le (l := s) (i := s.length + gapQ (s.drop s.length)) (Nat.le_add_right _ _)]
  rfl
theorem Flt.cells {w : World} {g e a : Nat} (h : Flt w g e a) : w.cell? ⟨g, 0, none⟩ = some (.int .i64 (e : Int)) ∧ w.cell? ⟨g, 1, none⟩ = some (.int .i64 (a : Int)) ∧ g < w.heap.size := by
  have h0 := h
  unfold Flt at h
  refine ⟨?_, ?_, heap_lt h0⟩ <;> (rw [Lib.cell_of_heap h]; rfl)
/-- A failed parse: an empty query. -/
theorem pa_fail {w w1 w' : World} {RR : Qry × Nat × Nat} {e a : Nat} (hR : RR = (noQ, e, a)) (hb : Below w.heap.size w w1) (h : Below w.heap.size w1 w') : PaPost w RR (.returned (.tuple #[.agg #[.int .i64 0, .int .i64 0, .string ⟨#[]⟩, .int .i64 0, .slice none 0 0], .int .i64 (e : Int), .int .i64 (a : Int)])) w' := by
  subst hR
  exact ⟨noRaw, rfl, QDeep.leaf _ _ 0 0 [] 0, noRaw_ok, hb.trans h⟩
set_option maxRecDepth 100000 in
set_option maxHeartbeats 4000000 in
theorem qparse_any (s : List UInt8) (w : World) (hs : s.length ≤ 1000000000) (ht : QTabs w) : Calls Tryz.prog 6 #[.string (ba s)] w (PaPost w (parseQ s)) := by
  have HTB := Lib.hid ht.base
  obtain ⟨S, hS⟩ : ∃ S, ba s = S := ⟨_, rfl⟩
  have HS := Lib.hid hS
  have HZ := Lib.hid (show S.size = s.length by rw [← hS, ba_size])
  have hsz : (S.size : Int) = s.length := by rw [HZ.out]
  obtain ⟨RR, hRR⟩ : ∃ R, parseQ s = R := ⟨_, rfl⟩
  have HRR := Lib.hid hRR
  rw [hRR, hS]
  clear hS hRR
  by_cases hlong : 1000 < s.length
  · have hl2 : 1000 < (s.length : Int) := by omega
    have HR := Lib.hid (HRR.out.symm.trans (parseQ_long hlong))
    clear ht
    go_enter Tryz.func6, Tryz.ntmps6
    go_wp2
    refine bodyPost_ret (v := .tuple #[.agg #[.int .i64 0, .int .i64 0, .string ⟨#[]⟩, .int .i64 0, .slice none 0 0], .int .i64 16, .int .i64 0]) (by simp [results, Tryz.results6, go_sem]; try rfl) rfl ?_
    exact pa_fail HR.out (Below.refl _ _) ((Below.refl _ _).alloc (Nat.le_refl _) _)
  · have hl2 : ¬ 1000 < (s.length : Int) := by omega
    have hl3 : s.length ≤ 1000 := by omega
    have HPA := Lib.hid (fun h => HRR.out.symm.trans (parseQ_all hl3 h))
    have HPR := Lib.hid (fun h => HRR.out.symm.trans (parseQ_run hl3 h))
    obtain ⟨b, hb⟩ : ∃ b, w.heap.size + 1 = b := ⟨_, rfl⟩
    have HB := Lib.hid hb
    have HQC := Lib.hid (fun W h1 h2 => (q_all s b w.heap.size hl3 (by omega) (3 * s.length + 9) (3 * s.length + 9) (Nat.le_refl _) 0 (by omega)).2.2 W 0 (Nat.zero_le _) (by omega) h1 h2)
    have hin := run_in s (3 * s.length + 9) .qry 0 0 (Nat.zero_le _)
    obtain ⟨R0, hR0⟩ : ∃ R, runQ s (3 * s.length + 9) .qry 0 0 = R := ⟨_, rfl⟩
    rw [hR0] at HPR HQC hin
    have hpl : R0.place s ≤ s.length := by cases R0 with | ok q0 a0 => exact hin.2 | err e0 a0 => exact Nat.le_refl _
    have hob : Below w.heap.size w ((w.alloc qObj).alloc (.cells #[.string (ba s), .int .i64 ((0 : Nat) : Int), .int .i64 ((0 : Nat) : Int), .pointer none] 39)) := ((Below.refl w.heap.size w).alloc (Nat.le_refl _) _).alloc (by simp) _
    have HPS := Lib.hid (show Psr ((w.alloc qObj).alloc (.cells #[.string (ba s), .int .i64 ((0 : Nat) : Int), .int .i64 ((0 : Nat) : Int), .pointer none] 39)) b s 0 0 (.pointer none) by
      have h := (MapKept.heap_alloc (w.alloc qObj) (.cells #[.string (ba s), .int .i64 ((0 : Nat) : Int), .int .i64 ((0 : Nat) : Int), .pointer none] 39)).1
      rw [World.size_alloc, hb] at h
      exact h)
    have HOB := Lib.hid hob
    have HQZ := Lib.hid (show QzAt ((w.alloc qObj).alloc (.cells #[.string (ba s), .int .i64 ((0 : Nat) : Int), .int .i64 ((0 : Nat) : Int), .pointer none] 39)) w.heap.size from (heap_alloc_old _ _ (by simp)).trans (qzAt_new w))
    have HTB1 := Lib.hid (HTB.out.below hob)
    obtain ⟨W1, hW1⟩ : ∃ W1, (w.alloc qObj).alloc (.cells #[.string (ba s), .int .i64 ((0 : Nat) : Int), .int .i64 ((0 : Nat) : Int), .pointer none] 39) = W1 := ⟨_, rfl⟩
    have HW1 := Lib.hid hW1
    rw [hW1] at HPS HOB HQZ HTB1
    obtain ⟨p0, p1, p2, p3, pf, plt⟩ := HPS.out.cells
    have HPK := Lib.hid (qpeek_any s 0 b W1 (by omega) (Nat.zero_le _) (HTB1.out.tabs (by have := HOB.out.size; omega)) p0 p1)
    rw [HS.out] at HW1
    clear ht hob hW1 hb p0 p1 p2 p3 pf plt hR0 hin
    go_enter Tryz.func6, Tryz.ntmps6
    go_wp2_with fail
    rw [show (w.alloc qObj).alloc (.cells #[.string S, .int .i64 0, .int .i64 0, .pointer none] 39) = W1 from HW1.out, HB.out]
    refine HPK.out.mono ?_
    rintro e w2 ⟨rfl, hb2⟩
    obtain ⟨k, j, T, ff, z, hpc, -, -⟩ := pcV_shut (peekQ s 0)
    have HK0 := Lib.hid (pcV_tells hpc).1
    rw [hpc]
    have hpk := piece_kind w2 k ((peekQ s 0).src : Nat) j ff T z
    have HO2 := Lib.hid (HOB.out.trans (hb2.mono HOB.out.size))
    have HP2 := Lib.hid (HPS.out.below hb2 (heap_lt HPS.out))
    have HZ2 := Lib.hid (HQZ.out.below hb2 (heap_lt HQZ.out))
    have HT2 := Lib.hid (HTB1.out.below (hb2.mono HOB.out.size))
    clear hb2 hpc
    obtain ⟨r0, r1, r2, r3, r4, rf⟩ := HZ2.out.cells
    by_cases h0 : (k == 0) = true
    · obtain rfl : k = 0 := by simpa using h0
      have HF := Lib.hid (HPA.out (HK0.out.symm.trans h0))
      clear h0
      go_wp2
      refine bodyPost_ret (v := .tuple #[.agg #[.int .i64 1, .int .i64 0, .string ⟨#[]⟩, .int .i64 0, .slice none 0 0], .int .i64 0, .int .i64 0]) (by simp [results, Tryz.results6, go_sem, r0, r1, r2, r3, r4]) rfl ?_
      have h5 := (put5_off w2 w.heap.size (.int .i64 1) (.int .i64 0) (.string ⟨#[]⟩) (.int .i64 0) (.slice none 0 0)).below (B := w.heap.size) HO2.out.size (fun k e => by omega)
      rw [HF.out]
      exact ⟨⟨1, 0, [], 0, (none, 0, 0)⟩, rfl, QDeep.leaf _ _ 1 0 [] 0, ⟨by decide, by decide, by decide⟩, HO2.out.trans h5⟩
    · have h0 : (k == 0) = false := by simpa using h0
      have h0b : (k != 0) = true := by simpa using h0
      have h0c : ¬ k = 0 := by simpa using h0
      have HF := Lib.hid (HPR.out (HK0.out.symm.trans h0))
      have HQQ := Lib.hid (HQC.out w2 HP2.out HT2.out)
      go_wp2_with fail
      refine HQQ.out.mono ?_
      rintro e w3 ⟨⟨o, fl, t, n, A, m, c⟩, q, rfl, hq, hk, ho, hst⟩
      obtain ⟨obj, hobj⟩ : ∃ obj : Obj, .cells #[.int .i64 o, .int .i64 fl, .string (ba t), .int .i64 n, .slice A m c] 25 = obj := ⟨_, rfl⟩
      have hb1 : Below w3.heap.size w3 (w3.alloc obj) := (Below.refl w3.heap.size w3).alloc (Nat.le_refl _) _
      have hbB : b < w2.heap.size := heap_lt HP2.out
      have hpst : PSt w2 (w3.alloc obj) b s 0 q R0 := hst.kept (F := fun _ => False) (Off.of_below hb1 (fun k h1 h2 => by omega)) (fun x => x) (fun _ x => x.elim)
      have hsz2 := HO2.out.size
      have hsz3 := ho.size
      have hB0 := HB.out
      have hbel : Below w.heap.size w (w3.alloc obj) := (HO2.out.trans (ho.below hsz2 (fun k e => by omega))).trans (hb1.mono (by omega))
      have htb : QTB (w3.alloc obj) w.heap.size := (HT2.out.off (by omega) hbB ho).below (hb1.mono (by omega))
      have hqz : QzAt (w3.alloc obj) w.heap.size := QzAt.below ((ho.block _ (by have := heap_lt HZ2.out; omega) (by omega)).trans HZ2.out) hb1 (by have := heap_lt HZ2.out; omega)
      have hbox : KBox (w3.alloc obj) w3.heap.size ⟨o, fl, t, n, (A, m, c)⟩ := by rw [← hobj]; exact kbox_new w3 ⟨o, fl, t, n, (A, m, c)⟩
      obtain ⟨flt, hps⟩ := hpst.psr
      obtain ⟨p0, p1, p2, p3, pf, plt⟩ := hps.cells
      have HPK := Lib.hid (qpeek_any s (R0.place s) b (w3.alloc obj) (by omega) hpl (htb.tabs (by have := hbel.size; omega)) p0 p1)
      have HQ4 := Lib.hid (QOwn.below hq hb1)
      have HK4 := Lib.hid hk
      have HP4 := Lib.hid hpst
      have HO4 := Lib.hid hbel
      have HZ4 := Lib.hid hqz
      have HX4 := Lib.hid hbox
      have HOJ := Lib.hid hobj
      have HS2 := Lib.hid hsz2
      have HS3 := Lib.hid (show w2.heap.size ≤ w3.heap.size from hsz3)
      clear hpk hq hk ho hst hobj hb1 hpst hbel htb hqz hbox hps p0 p1 p2 p3 pf plt hsz2 hsz3 r0 r1 r2 r3 r4 rf h0 h0b h0c
      unfold RawQ.val
      dsimp only
      go_wp2_with fail
      rw [HOJ.out]
      refine HPK.out.mono ?_
      rintro e w5 ⟨rfl, hb5⟩
      obtain ⟨k5, j5, T5, f5, z5, hpc5, -, -⟩ := pcV_shut (peekQ s (R0.place s))
      have HK5 := Lib.hid (pcV_tells hpc5).1
      rw [hpc5]
      have hsz5 : w3.heap.size < w5.heap.size := Nat.lt_of_lt_of_le (by simp) hb5.size
      obtain ⟨src, hsrc⟩ : ∃ x : Nat, (peekQ s (R0.place s)).src = x := ⟨_, rfl⟩
      have HSRC := Lib.hid hsrc
      rw [hsrc]
      have HQ5 := Lib.hid (QOwn.below HQ4.out hb5)
      have HO5 := Lib.hid (HO4.out.trans (hb5.mono HO4.out.size))
      have HP5 := Lib.hid (HP4.out.kept (F := fun _ => False) (Off.of_below hb5 (fun k h1 h2 => by omega)) (fun x => x) (fun _ x => x.elim))
      have HQZ5 := Lib.hid (HZ4.out.below hb5 (heap_lt HZ4.out))
      have HKB5 := Lib.hid (show KBox w5 w3.heap.size ⟨o, fl, t, n, (A, m, c)⟩ from (hb5.block _ (by simp)).trans HX4.out)
      clear hb5 hpc5 hsrc
      obtain ⟨r0, r1, r2, r3, r4, rf⟩ := HQZ5.out.cells
      obtain ⟨k0, k1, k2, k3, k4, kl⟩ := HKB5.out.cells
      have hne1 : ¬ w.heap.size = b := by omega
      have hne2 : ¬ b = w.heap.size := by omega
      have hn3 : ¬ w3.heap.size = w.heap.size := by have := HS2.out; have := HS3.out; have := heap_lt HZ2.out; omega
      have hn4 : ¬ w.heap.size = w3.heap.size := fun e => hn3 e.symm
      have hz5 : w.heap.size < w5.heap.size := heap_lt HQZ5.out
      cases R0 with
      | ok q0 a0 =>
        obtain ⟨hq0, hps⟩ := HP5.out
        obtain ⟨p0, p1, p2, p3, pf, plt⟩ := hps.cells
        have HQ0 := Lib.hid hq0
        have HPS5 := Lib.hid hps
        by_cases h5 : (k5 == 0) = true
        · obtain rfl : k5 = 0 := by simpa using h5
          have HE := Lib.hid (ok_nat (q := q0) (a := a0) HF.out (if_pos (HK5.out.symm.trans h5)))
          clear h5 hq0 hps
          go_wp2
          refine bodyPost_ret (v := .tuple #[.agg #[.int .i64 o, .int .i64 fl, .string (ba t), .int .i64 n, .slice A m c], .int .i64 0, .int .i64 0]) (by simp [results, Tryz.results6, go_sem, hz5, r0, r1, r2, r3, r4]) rfl ?_
          have h9 := (put5_off w5 w.heap.size (.int .i64 o) (.int .i64 fl) (.string (ba t)) (.int .i64 n) (.slice A m c)).alloc (.cells #[.int .i64 0, .int .i64 (src : Nat), .int .i64 j5, .string T5, .int .i64 f5, .bool z5] 41)
          rw [HE.out]
          refine ⟨⟨o, fl, t, n, (A, m, c)⟩, rfl, ?_, HK4.out, HO5.out.trans (h9.below HO5.out.size (fun k e => by omega))⟩
          have hq9 := HQ5.out.off h9 (B' := w.heap.size) (fun k e => by have := heap_lt HZ2.out; omega) HS2.out
          rw [HQ0.out] at hq9
          exact hq9
        · have h5 : (k5 == 0) = false := by simpa using h5
          have h5b : (k5 != 0) = true := by simpa using h5
          have h5c : ¬ k5 = 0 := by simpa using h5
          have HE := Lib.hid (err_nat (e := 2) (a := src) HF.out (by
            show (if finB (peekQ s a0).tok = true then QRes.ok q0 a0 else QRes.err 2 (peekQ s a0).src) = _
            rw [if_neg (by rw [show finB (peekQ s a0).tok = false from HK5.out.symm.trans h5]; decide), show (peekQ s a0).src = src from HSRC.out]))
          obtain ⟨P, hP⟩ : ∃ P : Obj, .cells #[.int .i64 k5, .int .i64 (src : Nat), .int .i64 j5, .string T5, .int .i64 f5, .bool z5] 41 = P := ⟨_, rfl⟩
          have hb6 : Below w5.heap.size w5 (w5.alloc P) := (Below.refl _ _).alloc (Nat.le_refl _) _
          have HFL := Lib.hid (qfail_st s b 0 2 src w2 (w5.alloc P) q (.ok q0 a0) (by omega) (by have := HS2.out; have := HS3.out; have := hb6.size; omega) (HP5.out.kept (F := fun _ => False) (Off.of_below hb6 (fun k h1 h2 => by omega)) (fun x => x) (fun _ x => x.elim)))
          have HQZ6 := Lib.hid (HQZ5.out.below hb6 hz5)
          have HO6 := Lib.hid (HO5.out.trans (hb6.mono HO5.out.size))
          have hbw5 : b < (w5.alloc P).heap.size := by rw [World.size_alloc]; omega
          have HP := Lib.hid hP
          clear hP hb6 hq0 hps h5
          go_wp2_with fail
          rw [HP.out]
          refine HFL.out.mono ?_
          rintro e W9 ⟨rfl, ho9, hst9⟩
          have HGG := Lib.hid (hst9 noQ)
          have HO9 := Lib.hid (HO6.out.trans (ho9.below HO6.out.size (fun k e => by omega)))
          have HQZ9 := Lib.hid (show QzAt W9 w.heap.size from (ho9.block _ (heap_lt HQZ6.out) hne1).trans HQZ6.out)
          clear ho9 hst9 p0 p1 p2 p3 pf plt k0 k1 k2 k3 k4 kl r0 r1 r2 r3 r4 rf
          rw [noRaw_val]
          obtain ⟨g, hg1, hg2, hg3, hg4⟩ := HGG.out
          obtain ⟨p0, p1, p2, p3, pf, plt⟩ := hg3.cells
          go_wp2
          clear p0 p1 p2 p3 pf plt hg1 hg2 hg3 hg4
          obtain ⟨g, hg1, hg2, hg3, hg4⟩ := HGG.out
          obtain ⟨p0, p1, p2, p3, pf, plt⟩ := hg3.cells
          obtain ⟨f0, f1, fl0⟩ := hg4.cells
          obtain ⟨r0, r1, r2, r3, r4, rf⟩ := HQZ9.out.cells
          have hz9 : w.heap.size < W9.heap.size := heap_lt HQZ9.out
          have hn8 : ¬ g = w.heap.size := by omega
          have hn9 : ¬ w.heap.size = g := by omega
          clear hg1 hg3 hg4
          go_region
          all_goals
            go_wp2
            refine bodyPost_ret (v := .tuple #[.agg #[.int .i64 0, .int .i64 0, .string ⟨#[]⟩, .int .i64 0, .slice none 0 0], .int .i64 ((2 : Nat) : Int), .int .i64 (src : Nat)]) (by simp [results, Tryz.results6, go_sem, r0, r1, r2, r3, r4]) rfl ?_
            refine pa_fail HE.out HO9.out ?_
            exact ((put5_off W9 w.heap.size _ _ _ _ _).drew).below HO9.out.size (fun k e => by omega)
      | err e0 a0 =>
        have HE := Lib.hid (err_nat HF.out rfl)
        obtain ⟨P, hP⟩ : ∃ P : Obj, .cells #[.int .i64 k5, .int .i64 (src : Nat), .int .i64 j5, .string T5, .int .i64 f5, .bool z5] 41 = P := ⟨_, rfl⟩
        have hb6 : Below w5.heap.size w5 (w5.alloc P) := (Below.refl _ _).alloc (Nat.le_refl _) _
        have HGG := Lib.hid (HP5.out.kept (F := fun _ => False) (Off.of_below hb6 (fun k h1 h2 => by omega)) (fun x => x) (fun _ x => x.elim))
        have HQZ9 := Lib.hid (HQZ5.out.below hb6 hz5)
        have HO9 := Lib.hid (HO5.out.trans (hb6.mono HO5.out.size))
        obtain ⟨g, hg1, hg2, hg3, hg4⟩ := HP5.out
        obtain ⟨p0, p1, p2, p3, pf, plt⟩ := hg3.cells
        have h5 : (k5 == 0) = true := HK5.out.trans (finB_end s)
        obtain rfl : k5 = 0 := by simpa using h5
        have HP := Lib.hid hP
        clear h5 hb6 hP hg1 hg2 hg3 hg4
        go_wp2_with fail
        rw [HP.out]
        obtain ⟨W9, hW9⟩ : ∃ W9, w5.alloc P = W9 := ⟨_, rfl⟩
        rw [hW9] at HGG HQZ9 HO9 ⊢
        clear hW9 p0 p1 p2 p3 pf plt k0 k1 k2 k3 k4 kl r0 r1 r2 r3 r4 rf
        obtain ⟨g, hg1, hg2, hg3, hg4⟩ := HGG.out
        obtain ⟨p0, p1, p2, p3, pf, plt⟩ := hg3.cells
        obtain ⟨f0, f1, fl0⟩ := hg4.cells
        obtain ⟨r0, r1, r2, r3, r4, rf⟩ := HQZ9.out.cells
        have hz9 : w.heap.size < W9.heap.size := heap_lt HQZ9.out
        have hn8 : ¬ g = w.heap.size := by omega
        have hn9 : ¬ w.heap.size = g := by omega
        clear hg1 hg3 hg4
        go_region
        all_goals
          go_wp2
          refine bodyPost_ret (v := .tuple #[.agg #[.int .i64 0, .int .i64 0, .string ⟨#[]⟩, .int .i64 0, .slice none 0 0], .int .i64 (e0 : Nat), .int .i64 (a0 : Nat)]) (by simp [results, Tryz.results6, go_sem, r0, r1, r2, r3, r4]) rfl ?_
          refine pa_fail HE.out HO9.out ?_
          exact ((put5_off W9 w.heap.size _ _ _ _ _).drew).below HO9.out.size (fun k e => by omega)
end Go.Proofs.YtomcdhmcjndioaaGreatDoor
end
section
namespace Go.Proofs.YtomcdhmcjndioaaGreatDoor
open Go.RowKit
set_option linter.unusedVariables false

theorem r_all (s : List UInt8) (b : Nat) (hs : s.length ≤ 1000) : ∀ (F f : Nat), f ≤ F → ∀ d, d ≤ 8 → RTermC s b d f ∧ RRowC s b d f ∧ RQryC s b d f
  | F, 0, _, d, _ => ⟨fun w a _ h => by omega, fun w a _ h => by omega, fun w a _ h => by omega⟩
  | 0, f + 1, h, _, _ => by omega
  | F + 1, f + 1, h, d, hd => by
    have ih := r_all s b hs F
    exact ⟨rterm_any s b d f hs hd (fun h8 => (ih f (by omega) (d + 1) (by omega)).1) (fun h8 => (ih f (by omega) (d + 1) (by omega)).2.2),
      rrow_any s b d f hs hd (fun g hg => (ih g (by omega) d hd).1), rquery_any s b d f hs hd (fun g hg => (ih g (by omega) d hd).2.1)⟩
theorem rpiece_kind (W : World) (i j k : Int) (T U : ByteArray) (qd z : Bool) : (Instr.field 51 (.agg #[.int .i64 i, .int .i64 j, .int .i64 k, .string T, .bool qd, .string U, .bool z]) 2).run Tryz.prog W = .ok (.int .i64 k) W := by
  simp [Instr.field, asAgg, go_sem]
set_option maxRecDepth 100000 in
set_option maxHeartbeats 4000000 in
theorem rparse_any (s : List UInt8) (w : World) (hs : s.length ≤ 1000000000) : Calls Tryz.prog 7 #[.string (ba s)] w (PaPost w (parseQ s)) := by
  obtain ⟨S, hS⟩ : ∃ S, ba s = S := ⟨_, rfl⟩
  have HS := Lib.hid hS
  have HZ := Lib.hid (show S.size = s.length by rw [← hS, ba_size])
  have hsz : (S.size : Int) = s.length := by rw [HZ.out]
  obtain ⟨RR, hRR⟩ : ∃ R, parseQ s = R := ⟨_, rfl⟩
  have HRR := Lib.hid hRR
  rw [hRR, hS]
  clear hS hRR
  by_cases hlong : 1000 < s.length
  · have hl2 : 1000 < (s.length : Int) := by omega
    have HR := Lib.hid (HRR.out.symm.trans (parseQ_long hlong))
    go_enter Tryz.func7, Tryz.ntmps7
    go_wp2
    refine bodyPost_ret (v := .tuple #[.agg #[.int .i64 0, .int .i64 0, .string ⟨#[]⟩, .int .i64 0, .slice none 0 0], .int .i64 16, .int .i64 0]) (by simp [results, Tryz.results7, go_sem]; try rfl) rfl ?_
    exact pa_fail HR.out (Below.refl _ _) ((Below.refl _ _).alloc (Nat.le_refl _) _)
  · have hl2 : ¬ 1000 < (s.length : Int) := by omega
    have hl3 : s.length ≤ 1000 := by omega
    have HPA := Lib.hid (fun h => HRR.out.symm.trans (parseQ_all hl3 h))
    have HPR := Lib.hid (fun h => HRR.out.symm.trans (parseQ_run hl3 h))
    obtain ⟨b, hb⟩ : ∃ b, w.heap.size + 1 = b := ⟨_, rfl⟩
    have HB := Lib.hid hb
    have HQC := Lib.hid (fun W h1 => (r_all s b hl3 (3 * s.length + 9) (3 * s.length + 9) (Nat.le_refl _) 0 (by omega)).2.2 W 0 (Nat.zero_le _) (by omega) h1)
    have hin := run_in s (3 * s.length + 9) .qry 0 0 (Nat.zero_le _)
    obtain ⟨R0, hR0⟩ : ∃ R, runQ s (3 * s.length + 9) .qry 0 0 = R := ⟨_, rfl⟩
    rw [hR0] at HPR HQC hin
    have hpl : R0.place s ≤ s.length := by cases R0 with | ok q0 a0 => exact hin.2 | err e0 a0 => exact Nat.le_refl _
    have hob : Below w.heap.size w ((w.alloc qObj).alloc (.cells #[.string (ba s), .int .i64 ((0 : Nat) : Int), .int .i64 ((0 : Nat) : Int), .int .i64 ((0 : Nat) : Int), .int .i64 ((0 : Nat) : Int)] 49)) := ((Below.refl w.heap.size w).alloc (Nat.le_refl _) _).alloc (by simp) _
    have HPS := Lib.hid (show RPsr ((w.alloc qObj).alloc (.cells #[.string (ba s), .int .i64 ((0 : Nat) : Int), .int .i64 ((0 : Nat) : Int), .int .i64 ((0 : Nat) : Int), .int .i64 ((0 : Nat) : Int)] 49)) b s 0 0 0 0 by
      have h := (MapKept.heap_alloc (w.alloc qObj) (.cells #[.string (ba s), .int .i64 ((0 : Nat) : Int), .int .i64 ((0 : Nat) : Int), .int .i64 ((0 : Nat) : Int), .int .i64 ((0 : Nat) : Int)] 49)).1
      rw [World.size_alloc, hb] at h
      exact h)
    have HOB := Lib.hid hob
    have HQZ := Lib.hid (show QzAt ((w.alloc qObj).alloc (.cells #[.string (ba s), .int .i64 ((0 : Nat) : Int), .int .i64 ((0 : Nat) : Int), .int .i64 ((0 : Nat) : Int), .int .i64 ((0 : Nat) : Int)] 49)) w.heap.size from (heap_alloc_old _ _ (by simp)).trans (qzAt_new w))
    obtain ⟨W1, hW1⟩ : ∃ W1, (w.alloc qObj).alloc (.cells #[.string (ba s), .int .i64 ((0 : Nat) : Int), .int .i64 ((0 : Nat) : Int), .int .i64 ((0 : Nat) : Int), .int .i64 ((0 : Nat) : Int)] 49) = W1 := ⟨_, rfl⟩
    have HW1 := Lib.hid hW1
    rw [hW1] at HPS HOB HQZ
    obtain ⟨p0, p1, p2, p3, p4, pf, plt⟩ := HPS.out.cells
    have HPK := Lib.hid (rpeek_any s 0 b W1 (by omega) (Nat.zero_le _) p0 p1)
    rw [HS.out] at HW1
    clear hob hW1 hb p0 p1 p2 p3 p4 pf plt hR0 hin
    go_enter Tryz.func7, Tryz.ntmps7
    go_wp2_with fail
    rw [show (w.alloc qObj).alloc (.cells #[.string S, .int .i64 0, .int .i64 0, .int .i64 0, .int .i64 0] 49) = W1 from HW1.out, HB.out]
    refine HPK.out.mono ?_
    rintro e w2 ⟨rfl, hb2⟩
    obtain ⟨j, k, T, qd, U, z, hpc, hk0, -, -, -⟩ := rpcV_tells (s := s) (a := 0) (n := s.length)
    have HK0 := Lib.hid hk0
    rw [hpc]
    have hpk := rpiece_kind w2 ((peekQ s 0).src : Nat) j k T U qd z
    have HO2 := Lib.hid (HOB.out.trans (hb2.mono HOB.out.size))
    have HP2 := Lib.hid (HPS.out.below hb2 (heap_lt HPS.out))
    have HZ2 := Lib.hid (HQZ.out.below hb2 (heap_lt HQZ.out))
    clear hb2 hpc hk0
    obtain ⟨r0, r1, r2, r3, r4, rf⟩ := HZ2.out.cells
    by_cases h0 : (k == 0) = true
    · obtain rfl : k = 0 := by simpa using h0
      have HF := Lib.hid (HPA.out (HK0.out.trans h0))
      clear h0
      go_wp2
      refine bodyPost_ret (v := .tuple #[.agg #[.int .i64 1, .int .i64 0, .string ⟨#[]⟩, .int .i64 0, .slice none 0 0], .int .i64 0, .int .i64 0]) (by simp [results, Tryz.results7, go_sem, r0, r1, r2, r3, r4]) rfl ?_
      have h5 := (put5_off w2 w.heap.size (.int .i64 1) (.int .i64 0) (.string ⟨#[]⟩) (.int .i64 0) (.slice none 0 0)).below (B := w.heap.size) HO2.out.size (fun k e => by omega)
      rw [HF.out]
      exact ⟨⟨1, 0, [], 0, (none, 0, 0)⟩, rfl, QDeep.leaf _ _ 1 0 [] 0, ⟨by decide, by decide, by decide⟩, HO2.out.trans h5⟩
    · have h0 : (k == 0) = false := by simpa using h0
      have h0b : (k != 0) = true := by simpa using h0
      have h0c : ¬ k = 0 := by simpa using h0
      have HF := Lib.hid (HPR.out (HK0.out.trans h0))
      have HQQ := Lib.hid (HQC.out w2 HP2.out)
      go_wp2_with fail
      refine HQQ.out.mono ?_
      rintro e w3 ⟨⟨o, fl, t, n, A, m, c⟩, q, rfl, hq, hk, ho, hst⟩
      obtain ⟨obj, hobj⟩ : ∃ obj : Obj, .cells #[.int .i64 o, .int .i64 fl, .string (ba t), .int .i64 n, .slice A m c] 25 = obj := ⟨_, rfl⟩
      have hb1 : Below w3.heap.size w3 (w3.alloc obj) := (Below.refl w3.heap.size w3).alloc (Nat.le_refl _) _
      have hbB : b < w2.heap.size := heap_lt HP2.out
      have hpst : RSt (w3.alloc obj) b s 0 q R0 := hst.off (F := fun _ => False) (Off.of_below hb1 (fun k h1 h2 => by omega)) (fun x => x)
      have hsz2 := HO2.out.size
      have hsz3 := ho.size
      have hB0 := HB.out
      have hbel : Below w.heap.size w (w3.alloc obj) := (HO2.out.trans (ho.below hsz2 (fun k e => by omega))).trans (hb1.mono (by omega))
      have hqz : QzAt (w3.alloc obj) w.heap.size := QzAt.below ((ho.block _ (by have := heap_lt HZ2.out; omega) (by omega)).trans HZ2.out) hb1 (by have := heap_lt HZ2.out; omega)
      have hbox : KBox (w3.alloc obj) w3.heap.size ⟨o, fl, t, n, (A, m, c)⟩ := by rw [← hobj]; exact kbox_new w3 ⟨o, fl, t, n, (A, m, c)⟩
      obtain ⟨d0, er0, pl0, -, -, hps, -⟩ := hpst.psr
      obtain ⟨p0, p1, p2, p3, p4, pf, plt⟩ := hps.cells
      have HPK := Lib.hid (rpeek_any s (R0.place s) b (w3.alloc obj) (by omega) hpl p0 p1)
      have HQ4 := Lib.hid (QOwn.below hq hb1)
      have HK4 := Lib.hid hk
      have HP4 := Lib.hid hpst
      have HO4 := Lib.hid hbel
      have HZ4 := Lib.hid hqz
      have HX4 := Lib.hid hbox
      have HOJ := Lib.hid hobj
      have HS2 := Lib.hid hsz2
      have HS3 := Lib.hid (show w2.heap.size ≤ w3.heap.size from hsz3)
      clear hpk hq hk ho hst hobj hb1 hpst hbel hqz hbox hps p0 p1 p2 p3 p4 pf plt hsz2 hsz3 r0 r1 r2 r3 r4 rf h0 h0b h0c
      unfold RawQ.val
      dsimp only
      go_wp2_with fail
      rw [HOJ.out]
      refine HPK.out.mono ?_
      rintro e w5 ⟨rfl, hb5⟩
      obtain ⟨j5, k5, T5, q5, U5, z5, hpc5, hk5, -, -, -⟩ := rpcV_tells (s := s) (a := R0.place s) (n := s.length)
      have HK5 := Lib.hid hk5
      rw [hpc5]
      have hsz5 : w3.heap.size < w5.heap.size := Nat.lt_of_lt_of_le (by simp) hb5.size
      obtain ⟨src, hsrc⟩ : ∃ x : Nat, (peekQ s (R0.place s)).src = x := ⟨_, rfl⟩
      have HSRC := Lib.hid hsrc
      rw [hsrc]
      have HQ5 := Lib.hid (QOwn.below HQ4.out hb5)
      have HO5 := Lib.hid (HO4.out.trans (hb5.mono HO4.out.size))
      have HP5 := Lib.hid (HP4.out.off (F := fun _ => False) (Off.of_below hb5 (fun k h1 h2 => by omega)) (fun x => x))
      have HQZ5 := Lib.hid (HZ4.out.below hb5 (heap_lt HZ4.out))
      have HKB5 := Lib.hid (show KBox w5 w3.heap.size ⟨o, fl, t, n, (A, m, c)⟩ from (hb5.block _ (by simp)).trans HX4.out)
      clear hb5 hpc5 hsrc hk5
      obtain ⟨r0, r1, r2, r3, r4, rf⟩ := HQZ5.out.cells
      obtain ⟨k0, k1, k2, k3, k4, kl⟩ := HKB5.out.cells
      have hne1 : ¬ w.heap.size = b := by omega
      have hne2 : ¬ b = w.heap.size := by omega
      have hn3 : ¬ w3.heap.size = w.heap.size := by have := HS2.out; have := HS3.out; have := heap_lt HZ2.out; omega
      have hn4 : ¬ w.heap.size = w3.heap.size := fun e => hn3 e.symm
      have hz5 : w.heap.size < w5.heap.size := heap_lt HQZ5.out
      cases R0 with
      | ok q0 a0 =>
        obtain ⟨hq0, hps⟩ := HP5.out
        obtain ⟨p0, p1, p2, p3, p4, pf, plt⟩ := hps.cells
        replace p3 : _ = some (Value.int .i64 0) := p3
        have HQ0 := Lib.hid hq0
        have HPS5 := Lib.hid hps
        by_cases h5 : (k5 == 0) = true
        · obtain rfl : k5 = 0 := by simpa using h5
          have HE := Lib.hid (ok_nat (q := q0) (a := a0) HF.out (if_pos (HK5.out.trans h5)))
          clear h5 hq0 hps
          go_wp2
          refine bodyPost_ret (v := .tuple #[.agg #[.int .i64 o, .int .i64 fl, .string (ba t), .int .i64 n, .slice A m c], .int .i64 0, .int .i64 0]) (by simp [results, Tryz.results7, go_sem, hz5, r0, r1, r2, r3, r4]) rfl ?_
          have h9 := (put5_off w5 w.heap.size (.int .i64 o) (.int .i64 fl) (.string (ba t)) (.int .i64 n) (.slice A m c)).alloc (.cells #[.int .i64 (src : Nat), .int .i64 j5, .int .i64 0, .string T5, .bool q5, .string U5, .bool z5] 51)
          rw [HE.out]
          refine ⟨⟨o, fl, t, n, (A, m, c)⟩, rfl, ?_, HK4.out, HO5.out.trans (h9.below HO5.out.size (fun k e => by omega))⟩
          have hq9 := HQ5.out.off h9 (B' := w.heap.size) (fun k e => by have := heap_lt HZ2.out; omega) HS2.out
          rw [HQ0.out] at hq9
          exact hq9
        · have h5 : (k5 == 0) = false := by simpa using h5
          have h5b : (k5 != 0) = true := by simpa using h5
          have h5c : ¬ k5 = 0 := by simpa using h5
          have HE := Lib.hid (err_nat (e := 2) (a := src) HF.out (by
            show (if finB (peekQ s a0).tok = true then QRes.ok q0 a0 else QRes.err 2 (peekQ s a0).src) = _
            rw [if_neg (by rw [show finB (peekQ s a0).tok = false from HK5.out.trans h5]; decide), show (peekQ s a0).src = src from HSRC.out]))
          obtain ⟨P, hP⟩ : ∃ P : Obj, .cells #[.int .i64 (src : Nat), .int .i64 j5, .int .i64 k5, .string T5, .bool q5, .string U5, .bool z5] 51 = P := ⟨_, rfl⟩
          have hb6 : Below w5.heap.size w5 (w5.alloc P) := (Below.refl _ _).alloc (Nat.le_refl _) _
          have HFL := Lib.hid (rfail_new s b a0 0 0 2 src (w5.alloc P) (by omega) (by decide) (Nat.le_refl _) (by omega) (HPS5.out.below hb6 plt))
          have HQZ6 := Lib.hid (HQZ5.out.below hb6 hz5)
          have HO6 := Lib.hid (HO5.out.trans (hb6.mono HO5.out.size))
          have hbw5 : b < (w5.alloc P).heap.size := by rw [World.size_alloc]; omega
          have HP := Lib.hid hP
          clear hP hb6 hq0 hps h5
          go_wp2_with fail
          rw [HP.out]
          refine HFL.out.mono ?_
          rintro e W9 ⟨rfl, ho9, hst9⟩
          have HGG := Lib.hid (hst9 noQ)
          have HO9 := Lib.hid (HO6.out.trans (ho9.below HO6.out.size (fun k e => by omega)))
          have HQZ9 := Lib.hid (show QzAt W9 w.heap.size from (ho9.block _ (heap_lt HQZ6.out) hne1).trans HQZ6.out)
          clear ho9 hst9 p0 p1 p2 p3 p4 pf plt k0 k1 k2 k3 k4 kl r0 r1 r2 r3 r4 rf
          rw [noRaw_val]
          obtain ⟨-, dd, -, -, hps9⟩ := HGG.out
          obtain ⟨p0, p1, p2, p3, p4, pf, plt⟩ := hps9.cells
          replace p3 : _ = some (Value.int .i64 2) := p3
          obtain ⟨r0, r1, r2, r3, r4, rf⟩ := HQZ9.out.cells
          have hz9 : w.heap.size < W9.heap.size := heap_lt HQZ9.out
          clear hps9
          go_wp2
          go_region
          all_goals
            go_wp2
            refine bodyPost_ret (v := .tuple #[.agg #[.int .i64 0, .int .i64 0, .string ⟨#[]⟩, .int .i64 0, .slice none 0 0], .int .i64 ((2 : Nat) : Int), .int .i64 (src : Nat)]) (by simp [results, Tryz.results7, go_sem, r0, r1, r2, r3, r4]) rfl ?_
            refine pa_fail HE.out HO9.out ?_
            exact ((put5_off W9 w.heap.size _ _ _ _ _).drew).below HO9.out.size (fun k e => by omega)
      | err e0 a0 =>
        have HE := Lib.hid (err_nat HF.out rfl)
        obtain ⟨P, hP⟩ : ∃ P : Obj, .cells #[.int .i64 (src : Nat), .int .i64 j5, .int .i64 k5, .string T5, .bool q5, .string U5, .bool z5] 51 = P := ⟨_, rfl⟩
        have hb6 : Below w5.heap.size w5 (w5.alloc P) := (Below.refl _ _).alloc (Nat.le_refl _) _
        have HGG := Lib.hid (HP5.out.off (F := fun _ => False) (Off.of_below hb6 (fun k h1 h2 => by omega)) (fun x => x))
        have HQZ9 := Lib.hid (HQZ5.out.below hb6 hz5)
        have HO9 := Lib.hid (HO5.out.trans (hb6.mono HO5.out.size))
        obtain ⟨he0, dd, -, -, hps9⟩ := HP5.out
        obtain ⟨p0, p1, p2, p3, p4, pf, plt⟩ := hps9.cells
        have ge : ((e0 : Int) == 0) = false := by simp; omega
        have geb : ((e0 : Int) != 0) = true := by simp; omega
        have HP := Lib.hid hP
        clear hb6 hP hps9
        go_wp2
        rw [HP.out]
        obtain ⟨W9, hW9⟩ : ∃ W9, w5.alloc P = W9 := ⟨_, rfl⟩
        rw [hW9] at HGG HQZ9 HO9 ⊢
        clear hW9 p0 p1 p2 p3 p4 pf plt k0 k1 k2 k3 k4 kl r0 r1 r2 r3 r4 rf
        obtain ⟨-, d9, -, -, hps9⟩ := HGG.out
        obtain ⟨p0, p1, p2, p3, p4, pf, plt⟩ := hps9.cells
        obtain ⟨r0, r1, r2, r3, r4, rf⟩ := HQZ9.out.cells
        have hz9 : w.heap.size < W9.heap.size := heap_lt HQZ9.out
        clear hps9
        go_region
        all_goals
          go_wp2
          refine bodyPost_ret (v := .tuple #[.agg #[.int .i64 0, .int .i64 0, .string ⟨#[]⟩, .int .i64 0, .slice none 0 0], .int .i64 (e0 : Nat), .int .i64 (a0 : Nat)]) (by simp [results, Tryz.results7, go_sem, r0, r1, r2, r3, r4]) rfl ?_
          refine pa_fail HE.out HO9.out ?_
          exact ((put5_off W9 w.heap.size _ _ _ _ _).drew).below HO9.out.size (fun k e => by omega)
end Go.Proofs.YtomcdhmcjndioaaGreatDoor
end
section
namespace Go.Proofs.YtomcdhmcjndioaaGreatDoor
open Go.RowKit
set_option linter.unusedVariables false

theorem int_ne {a b : Int} (h : a ≠ b) : (a == b) = false ∧ (a != b) = true ∧ ¬ a = b := ⟨by simpa using h, by simpa using h, h⟩
theorem two_cells (w : World) (a0 a1 a2 a3 a4 b0 b1 b2 b3 b4 : Value) : ((w.alloc (.cells #[a0, a1, a2, a3, a4] 25)).alloc (.cells #[b0, b1, b2, b3, b4] 25)).cell? ⟨w.heap.size, 4, none⟩ = some a4 ∧ ((w.alloc (.cells #[a0, a1, a2, a3, a4] 25)).alloc (.cells #[b0, b1, b2, b3, b4] 25)).cell? ⟨w.heap.size + 1, 4, none⟩ = some b4 := by
  constructor
  · rw [Lib.cell_of_heap ((heap_alloc_old _ _ (by simp)).trans (MapKept.heap_alloc w _).1)]; rfl
  · have h := (MapKept.heap_alloc (w.alloc (.cells #[a0, a1, a2, a3, a4] 25)) (.cells #[b0, b1, b2, b3, b4] 25)).1
    rw [World.size_alloc] at h
    rw [Lib.cell_of_heap h]; rfl
set_option maxRecDepth 100000 in
set_option maxHeartbeats 4000000 in
theorem rqsame_step (q : Qry) (IH : ∀ p ∈ q.kids, SameC 8 p) : SameC 8 q := by
  intro w r1 r2 q2 h1 h2
  obtain ⟨o1, f1, t1, n1, A1, m1, c1⟩ := r1
  obtain ⟨o2, f2, t2, n2, A2, m2, c2⟩ := r2
  obtain ⟨ps, raws, rfl, hk1, -, -⟩ := h1.open_
  obtain ⟨qs, raws', rfl, hk2, -, -⟩ := h2.open_
  have HB := Lib.hid (show Below w.heap.size w ((w.alloc (.cells #[.int .i64 o1, .int .i64 f1, .string (ba t1), .int .i64 n1, .slice A1 m1 c1] 25)).alloc (.cells #[.int .i64 o2, .int .i64 f2, .string (ba t2), .int .i64 n2, .slice A2 m2 c2] 25)) from ((Below.refl _ _).alloc (Nat.le_refl _) _).alloc (by simp) _)
  have HE := Lib.hid (eqQ_mk o1 f1 n1 t1 ps o2 f2 n2 t2 qs)
  have HNE := Lib.hid (eqQ_ne (k1 := ps) (k2 := qs) (o1 := o1) (f1 := f1) (n1 := n1) (t1 := t1) (o2 := o2) (f2 := f2) (n2 := n2) (t2 := t2) rfl rfl)
  have HP := Lib.hid hk1
  have HQ := Lib.hid hk2
  have HN := Lib.hid hk1.size
  have HN' := Lib.hid hk2.size
  have HIH := Lib.hid (show ∀ p ∈ ps, SameC 8 p from IH)
  have hmx := hk1.max
  unfold maxLen at hmx
  obtain ⟨R, hR⟩ : ∃ R, eqQ (.mk o1 f1 t1 n1 ps) (.mk o2 f2 t2 n2 qs) = R := ⟨_, rfl⟩
  rw [hR] at HE HNE ⊢
  clear h1 h2 hk1 hk2 IH hR
  unfold RawQ.val
  dsimp only
  by_cases e1 : o1 = o2
  · subst e1
    by_cases e2 : f1 = f2
    · subst e2
      by_cases e3 : t1 = t2
      · subst e3
        by_cases e4 : n1 = n2
        · subst e4
          have HF := Lib.hid (show R = eqC ps qs by rw [HE.out]; simp)
          clear HE HNE
          by_cases e5 : m1 = m2
          · subst e5
            have Z1 := Lib.hid (show ∀ W, Below ((w.alloc (.cells #[.int .i64 o1, .int .i64 f1, .string (ba t1), .int .i64 n1, .slice A1 m1 c1] 25)).alloc (.cells #[.int .i64 o1, .int .i64 f1, .string (ba t1), .int .i64 n1, .slice A2 m1 c2] 25)).heap.size ((w.alloc (.cells #[.int .i64 o1, .int .i64 f1, .string (ba t1), .int .i64 n1, .slice A1 m1 c1] 25)).alloc (.cells #[.int .i64 o1, .int .i64 f1, .string (ba t1), .int .i64 n1, .slice A2 m1 c2] 25)) W → W.cell? ⟨w.heap.size, 4, none⟩ = some (.slice A1 m1 c1) ∧ W.cell? ⟨w.heap.size + 1, 4, none⟩ = some (.slice A2 m1 c2) from fun W hW => ⟨(hW.cell (p := ⟨w.heap.size, 4, none⟩) (by simp only [World.size_alloc]; omega)).trans (two_cells w _ _ _ _ _ _ _ _ _ _).1, (hW.cell (p := ⟨w.heap.size + 1, 4, none⟩) (by simp only [World.size_alloc]; omega)).trans (two_cells w _ _ _ _ _ _ _ _ _ _).2⟩)
            obtain ⟨W0, hW0⟩ : ∃ W0, (w.alloc (.cells #[.int .i64 o1, .int .i64 f1, .string (ba t1), .int .i64 n1, .slice A1 m1 c1] 25)).alloc (.cells #[.int .i64 o1, .int .i64 f1, .string (ba t1), .int .i64 n1, .slice A2 m1 c2] 25) = W0 := ⟨_, rfl⟩
            rw [hW0] at Z1 HB
            have HW0 := Lib.hid hW0
            clear hW0
            go_enter Tryz.func8, Tryz.ntmps8
            go_wp2
            go_loopw [5] (fun i wr => ∃ k : Nat, k ≤ m1 ∧ i = .int .i64 (k : Int) ∧ Hid (SqRel W0 ps qs k wr)) (fun i _ => m1 - (intOf i).toNat)
            case atStart => exact ⟨0, Nat.zero_le _, rfl, Lib.hid ⟨rfl, by rw [← HW0.out]; exact Below.refl _ _⟩⟩
            case round =>
              obtain ⟨k, hk, rfl, HR⟩ := hrel
              obtain ⟨z1, z2⟩ := Z1.out _ HR.out.bel
              by_cases hlt : k < m1
              · have hk2 : (k : Int) < m1 := by omega
                have hkl : k < ps.length := by rw [← HN.out]; exact hlt
                have hkq : k < qs.length := by rw [← HN'.out]; exact hlt
                have HPR := Lib.hid ((HP.out.bel HB.out).bel HR.out.bel)
                have HQR := Lib.hid ((HQ.out.bel HB.out).bel HR.out.bel)
                have hkr : k < raws.length := by rw [HPR.out.len]; exact hkl
                have hkr' : k < raws'.length := by rw [HQR.out.len]; exact hkq
                obtain ⟨ad, rfl, la, c0, d1, d2, d3, d4, -⟩ := HPR.out.row.2 k hkr
                obtain ⟨ae, rfl, le, x0, x1, x2, x3, x4, -⟩ := HQR.out.row.2 k hkr'
                have HTS := Lib.hid (take_sameQ hkl hkq HR.out.eq)
                have HNE := Lib.hid (fun (h : ps[k] ≠ qs[k]) (e : ps = qs) => h (by subst e; rfl))
                have hda := HPR.out.all k hkr hkl
                have hdb := HQR.out.all k hkr' hkq
                have hih := HIH.out ps[k] (List.getElem_mem hkl)
                obtain ⟨p, hp⟩ : ∃ p, ps[k] = p := ⟨_, rfl⟩
                obtain ⟨q, hq⟩ : ∃ p, qs[k] = p := ⟨_, rfl⟩
                obtain ⟨r, hr⟩ : ∃ r, raws[k] = r := ⟨_, rfl⟩
                obtain ⟨r', hr'⟩ : ∃ r, raws'[k] = r := ⟨_, rfl⟩
                rw [hp] at HTS HNE hda hih
                rw [hq] at HTS HNE hdb
                rw [hr] at c0 d1 d2 d3 d4 hda
                rw [hr'] at x0 x1 x2 x3 x4 hdb
                obtain ⟨oa, fa, ta, na, Aa, ma, ca⟩ := r
                obtain ⟨ob, fb, tb, nb, Ab, mb, cb⟩ := r'
                dsimp only at c0 d1 d2 d3 d4 x0 x1 x2 x3 x4
                have HBE := Lib.hid HR.out.bel
                have HC := Lib.hid (hih wr.drew _ _ q (hda.bel (Below.refl _ _).drew) (hdb.bel (Below.refl _ _).drew))
                clear hp hq hkl hkq hda hdb hih hr hr' HPR HQR HR hkr hkr'
                unfold RawQ.val at HC
                dsimp only at HC
                go_wp2
                refine wp_region_tail 10 (by kernel_rfl) (by kernel_rfl) ?_
                simp only [List.take_succ_cons, List.take_zero, List.drop_succ_cons, List.drop_zero]
                repeat still_step
                try refine wpStill_nil ?_
                go_wp2_with fail
                refine HC.out.mono ?_
                rintro e w2 ⟨rfl, hb2⟩
                have HB3 := Lib.hid (HBE.out.trans (((Below.refl _ _).drew.trans hb2).mono HBE.out.size))
                clear hb2
                by_cases he : p = q
                · have HT := Lib.hid (HTS.out he)
                  rw [eqQ_true.2 he]
                  clear HTS HNE he
                  go_wp2
                  go_roundw
                  case rel => exact ⟨k + 1, by omega, by go_num, Lib.hid ⟨HT.out, HB3.out⟩⟩
                  case measure => simp [intOf] <;> omega
                · have HF2 := Lib.hid (show R = false from HF.out.trans (eqC_false (HNE.out he)))
                  rw [eqQ_false he]
                  clear HTS HNE he
                  go_wp2
                  go_ret
                  exact sm_end HF2.out (HB.out.trans (HB3.out.mono HB.out.size))
              · obtain rfl : k = m1 := by omega
                have HF2 := Lib.hid (show R = true from HF.out.trans (eqC_true.2 (by
                  have h := HR.out.eq
                  rw [List.take_of_length_le (by rw [← HN.out]; exact Nat.le_refl _), List.take_of_length_le (by rw [← HN'.out]; exact Nat.le_refl _)] at h
                  exact h)))
                have HBE := Lib.hid HR.out.bel
                clear HR
                go_wp2
                go_ret
                exact sm_end HF2.out (HB.out.trans (HBE.out.mono HB.out.size))
          · have HF2 := Lib.hid (show R = false from HF.out.trans (eqC_false fun h => e5 (by rw [HN.out, HN'.out, h])))
            obtain ⟨g1, g2, g3⟩ := int_ne (show (m1 : Int) ≠ (m2 : Int) by omega)
            clear HF e5
            go_enter Tryz.func8, Tryz.ntmps8
            go_wp2
            go_ret
            exact sm_end HF2.out HB.out
        · have HF := Lib.hid (HNE.out fun h => e4 h.2.2.2)
          obtain ⟨g1, g2, g3⟩ := int_ne e4
          clear HE HNE
          go_enter Tryz.func8, Tryz.ntmps8
          go_wp2
          go_ret
          exact sm_end HF.out HB.out
      · have HF := Lib.hid (HNE.out fun h => e3 h.2.2.1)
        obtain ⟨g1, g2⟩ := txt_ne e3
        clear HE HNE e3
        go_enter Tryz.func8, Tryz.ntmps8
        go_wp2
        go_ret
        exact sm_end HF.out HB.out
    · have HF := Lib.hid (HNE.out fun h => e2 h.2.1)
      obtain ⟨g1, g2, g3⟩ := int_ne e2
      clear HE HNE
      go_enter Tryz.func8, Tryz.ntmps8
      go_wp2
      go_ret
      exact sm_end HF.out HB.out
  · have HF := Lib.hid (HNE.out fun h => e1 h.1)
    obtain ⟨g1, g2, g3⟩ := int_ne e1
    clear HE HNE
    go_enter Tryz.func8, Tryz.ntmps8
    go_wp2
    go_ret
    exact sm_end HF.out HB.out
theorem rqsame_any (q : Qry) : SameC 8 q := same_all _ rqsame_step _ q (Nat.le_refl _)
end Go.Proofs.YtomcdhmcjndioaaGreatDoor
end
