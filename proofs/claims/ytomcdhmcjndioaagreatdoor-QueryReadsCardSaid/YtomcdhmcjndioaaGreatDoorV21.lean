/- Layer 37: bracket. Layer 37: deeper. -/
import Derived.Test.YtomcdhmcjndioaaGreatDoorV20
section
namespace Go.Proofs.YtomcdhmcjndioaaGreatDoor
open Go.RowKit
set_option linter.unusedVariables false

/-- The box of a query. -/
def KBox (w : World) (g : Nat) (r : RawQ) : Prop := w.heap[g]? = some (.cells #[.int .i64 r.op, .int .i64 r.fld, .string (ba r.text), .int .i64 r.n, .slice r.kids.1 r.kids.2.1 r.kids.2.2] 25 (0, 0))
theorem KBox.cells {w : World} {g : Nat} {o f : Int} {t : List UInt8} {n : Int} {A : Option Addr} {m c : Nat} (h : KBox w g ⟨o, f, t, n, (A, m, c)⟩) : w.cell? ⟨g, 0, none⟩ = some (.int .i64 o) ∧ w.cell? ⟨g, 1, none⟩ = some (.int .i64 f) ∧ w.cell? ⟨g, 2, none⟩ = some (.string (ba t)) ∧ w.cell? ⟨g, 3, none⟩ = some (.int .i64 n) ∧ w.cell? ⟨g, 4, none⟩ = some (.slice A m c) ∧ g < w.heap.size := by
  have h0 := h
  unfold KBox at h
  refine ⟨?_, ?_, ?_, ?_, ?_, heap_lt h0⟩ <;> (rw [Lib.cell_of_heap h]; rfl)
theorem kbox_new (w : World) (r : RawQ) : KBox (w.alloc (.cells #[.int .i64 r.op, .int .i64 r.fld, .string (ba r.text), .int .i64 r.n, .slice r.kids.1 r.kids.2.1 r.kids.2.2] 25)) w.heap.size r := (MapKept.heap_alloc w _).1
/-- A piece by its words; k tells a closing parenthesis. -/
theorem pcV_shut (x : Pce) : ∃ (k j : Int) (T : ByteArray) (f : Int) (z : Bool), pcV x = .agg #[.int .i64 k, .int .i64 (x.src : Nat), .int .i64 j, .string T, .int .i64 f, .bool z] ∧ (shutB x.tok = true → (k == 2) = true ∧ j = (x.dst : Nat)) ∧ (shutB x.tok = false → (k == 2) = false) := by
  obtain ⟨i, j, tok⟩ := x
  cases tok <;> exact ⟨_, _, _, _, _, rfl, by simp [shutB], by simp [shutB]⟩
theorem PSt.kept {w0 W W' : World} {F : Nat → Prop} {b d : Nat} {s : List UInt8} {q : Qry} {R : QRes} (h : PSt w0 W b s d q R) (ho : Off F W W') (hb : ¬ F b) (hF : ∀ k, F k → k < w0.heap.size) : PSt w0 W' b s d q R := by
  cases R with
  | ok q0 a => exact ⟨h.1, h.2.off ho hb⟩
  | err er a =>
    obtain ⟨g, h1, h2, h3, h4⟩ := h
    exact ⟨g, h1, h2, h3.off ho hb, h4.off ho fun e => by have := hF g e; omega⟩
/-- Where the parser stands behind a run. -/
def QRes.place (s : List UInt8) : QRes → Nat
  | .ok _ a => a
  | .err _ _ => s.length
theorem PSt.psr {w0 W : World} {b d : Nat} {s : List UInt8} {q : Qry} {R : QRes} (h : PSt w0 W b s d q R) : ∃ fl, Psr W b s (R.place s) d fl := by
  cases R with
  | ok q0 a => exact ⟨_, h.2⟩
  | err er a => obtain ⟨g, h1, h2, h3, h4⟩ := h; exact ⟨_, h3⟩
theorem qfail_st (s : List UInt8) (b d er a : Nat) (w0 w : World) (q : Qry) (R : QRes) (hs : s.length ≤ 1000000) (hw : w0.heap.size ≤ w.heap.size) (hst : PSt w0 w b s d q R) :
    Calls Tryz.prog 15 #[.pointer (some ⟨b, 0, none⟩), .int .i64 (er : Int), .int .i64 (a : Int)] w (fun e w' => e = .returned noRaw.val ∧ Off (fun k => k = b) w w' ∧ ∀ q', PSt w0 w' b s d q' (R.then fun _ _ => .err er a)) := by
  cases R with
  | ok q0 a0 =>
    refine (qfail_new s b a0 d er a w hs hst.2).mono ?_
    rintro e w' ⟨h1, h2, g, h3, h4⟩
    exact ⟨h1, h2, fun q' => ⟨g, Nat.le_trans hw h3, h4⟩⟩
  | err e0 a0 =>
    obtain ⟨g, h1, h2, h3, h4⟩ := hst
    refine (qfail_old s b s.length d er a g w hs h3).mono ?_
    rintro e w' ⟨k1, k2, k3⟩
    exact ⟨k1, k2, fun q' => ⟨g, h1, h2, k3, h4.off k2 h2⟩⟩
theorem peek_end (s : List UInt8) : shutB (peekQ s s.length).tok = false := by
  unfold peekQ
  rw [List.drop_of_length_le (l := s) (i := s.length + gapQ (s.drop s.length)) (Nat.le_add_right _ _)]
  rfl
theorem QTB.off {w w' : World} {B b : Nat} (h : QTB w B) (hB : B ≤ b) (hb : b < w.heap.size) (ho : Off (fun k => k = b) w w') : QTB w' B := h.below (ho.below (by omega) (fun k e => by omega))
theorem put5_off (w : World) (g : Nat) (v0 v1 v2 v3 v4 : Value) : Off (fun k => k = g) w (((((w.setCell ⟨g, 0, none⟩ v0).setCell ⟨g, 1, none⟩ v1).setCell ⟨g, 2, none⟩ v2).setCell ⟨g, 3, none⟩ v3).setCell ⟨g, 4, none⟩ v4) := by
  iterate 5 refine Off.setCell ?_ (.inl (by rfl)) _
  exact Off.refl _ w
theorem noRaw_val : noRaw.val = .agg #[.int .i64 0, .int .i64 0, .string ⟨#[]⟩, .int .i64 0, .slice none 0 0] := rfl
theorem noRaw_ok : RawOk noRaw := ⟨by decide, by decide, by decide⟩
set_option maxRecDepth 100000 in
set_option maxHeartbeats 4000000 in
theorem qbracket_any (s : List UInt8) (b d B0 f a : Nat) (w : World) (hs : s.length ≤ 1000000) (hQ : QryC s b d B0 f) (ha : a ≤ s.length) (hf : 3 * (s.length - a) + 3 ≤ f) (hp : Psr w b s a d (.pointer none)) (ht : QTB w B0) (hB : B0 ≤ b) :
    Calls Tryz.prog 74 #[.pointer (some ⟨b, 0, none⟩)] w (PEnd w b s d ((runQ s f .qry d a).then fun q b => if shutB (peekQ s b).tok then .ok q (peekQ s b).dst else .err 2 (peekQ s b).src)) := by
  have hbw := heap_lt hp
  have hob : Below w.heap.size w (w.alloc qObj) := (Below.refl w.heap.size w).alloc (Nat.le_refl _) _
  have ht0 : QTB (w.alloc qObj) B0 := ht.below ((Below.refl B0 w).alloc (by omega) _)
  have HT := Lib.hid (hQ (w.alloc qObj) a ha hf (hp.below hob hbw) ht0)
  have HTB := Lib.hid ht0
  have hin := run_in s f .qry d a ha
  obtain ⟨R, hR⟩ : ∃ R, runQ s f .qry d a = R := ⟨_, rfl⟩
  rw [hR] at HT hin ⊢
  have hpl : R.place s ≤ s.length := by cases R with | ok q0 a0 => exact hin.2 | err e0 a0 => exact Nat.le_refl _
  have hfin : ∀ e0 a0, R = .err e0 a0 → shutB (peekQ s (R.place s)).tok = false := fun e0 a0 e => by subst e; exact peek_end s
  have HFIN := Lib.hid hfin
  clear hQ hp ht hR ha hf hin hob ht0 hfin
  go_enter Tryz.func74, Tryz.ntmps74
  go_wp2_with fail
  refine HT.out.mono ?_
  rintro e w1 ⟨⟨o, fl, t, n, A, m, c⟩, q, rfl, hq, hk, ho, hst⟩
  have hz : (w.alloc qObj).heap.size = w.heap.size + 1 := by simp
  have z1 : w.heap.size < w1.heap.size := Nat.lt_of_lt_of_le (by simp) ho.size
  have HZ : QzAt w1 w.heap.size := (ho.block w.heap.size (by simp) (by omega)).trans (qzAt_new w)
  have HR0 := kbox_new w1 ⟨o, fl, t, n, (A, m, c)⟩
  obtain ⟨obj, hobj⟩ : ∃ obj : Obj, .cells #[.int .i64 o, .int .i64 fl, .string (ba t), .int .i64 n, .slice A m c] 25 = obj := ⟨_, rfl⟩
  have hb1 : Below w1.heap.size w1 (w1.alloc obj) := (Below.refl w1.heap.size w1).alloc (Nat.le_refl _) _
  have ht1 := (HTB.out.off hB (by simp; omega) ho).below (hb1.mono (show B0 ≤ w1.heap.size by omega))
  obtain ⟨flt, hps⟩ := hst.psr
  have hbw1 := heap_lt hps
  have hps1 := hps.below hb1 hbw1
  obtain ⟨p0, p1, p2, p3, pf, plt⟩ := hps1.cells
  have HPK := Lib.hid (qpeek_any s (R.place s) b (w1.alloc obj) (by omega) hpl (ht1.tabs (by omega)) p0 p1)
  obtain ⟨X, hX⟩ : ∃ X, peekQ s (R.place s) = X := ⟨_, rfl⟩
  rw [hX] at HPK HFIN
  obtain ⟨k, j, T, ff, z, hpc, hsh, hns⟩ := pcV_shut X
  have HQ := Lib.hid hq
  have HK := Lib.hid hk
  have HO := Lib.hid ho
  have HS := Lib.hid hst
  have HB1 := Lib.hid hb1
  have HX := Lib.hid hX
  have HZH := Lib.hid HZ
  have HRH := Lib.hid HR0
  have HPS := Lib.hid hps1
  have HOB := Lib.hid hobj
  have HSH := Lib.hid hsh
  have HNS := Lib.hid hns
  have HPC := Lib.hid hpc
  clear hq hk ho hst hb1 ht1 hps hps1 p0 p1 p2 p3 pf plt hX hobj HZ HR0 hsh hns hpc
  unfold RawQ.val
  dsimp only
  go_wp2_with fail
  rw [HOB.out]
  refine HPK.out.mono ?_
  rintro e w2 ⟨rfl, hb2⟩
  rw [HPC.out]
  have hb0 := hb2
  have hz2 : w1.heap.size < w2.heap.size := Nat.lt_of_lt_of_le (by simp) hb2.size
  have hoo : Off (fun k => k = b) (w.alloc qObj) w2 := HO.out.andThen (Off.of_below (F := fun _ => False) (HB1.out.trans (hb2.mono HB1.out.size)) (fun k h1 h2 => by omega)) (fun _ _ x => x.elim)
  have HZ2 : QzAt w2 w.heap.size := (HZH.out.below HB1.out z1).below hb2 (Nat.lt_of_lt_of_le z1 HB1.out.size)
  have HR2 : KBox w2 w1.heap.size ⟨o, fl, t, n, (A, m, c)⟩ := (hb2.block _ (by simp)).trans (by rw [← HOB.out]; exact HRH.out)
  have hps2 : Psr w2 b s (R.place s) d flt := HPS.out.below hb2 (heap_lt HPS.out)
  have HS2 := Lib.hid ((HS.out.kept (F := fun _ => False) (Off.of_below HB1.out (fun k h1 h2 => by omega)) (fun x => x) (fun _ x => x.elim)).kept (F := fun _ => False) (Off.of_below hb2 (fun k h1 h2 => by omega)) (fun x => x) (fun _ x => x.elim))
  have HQ2 := Lib.hid ((HQ.out.below HB1.out).below hb2)
  have HOO := Lib.hid hoo
  have HPS2 := Lib.hid hps2
  have HZ2H := Lib.hid HZ2
  obtain ⟨r0, r1, r2, r3, r4, rf⟩ := HZ2.cells
  obtain ⟨x0, x1, x2, x3, x4, xl⟩ := HR2.cells
  obtain ⟨p0, p1, p2, p3, pf, plt⟩ := hps2.cells
  have z2 : w.heap.size < w2.heap.size := Nat.lt_trans z1 hz2
  have hne1 : ¬ w.heap.size = b := by omega
  have hne2 : ¬ w1.heap.size = b := by omega
  have hne3 : ¬ w1.heap.size = w.heap.size := by omega
  have hne4 : ¬ b = w.heap.size := by omega
  have hne5 : ¬ b = w1.heap.size := by omega
  have hne6 : ¬ w.heap.size = w1.heap.size := by omega
  obtain ⟨sn, hsn⟩ : ∃ x : Int, ((X.src : Nat) : Int) = x := ⟨_, rfl⟩
  have HSN := Lib.hid hsn
  rw [hsn]
  clear hps2 HZ2 HR2 hoo hb2 hb0 hsn
  by_cases hc : shutB X.tok = true
  · obtain ⟨hk2, hj⟩ := HSH.out hc
    have HC := Lib.hid hc
    have HJ := Lib.hid hj
    clear hc hj
    go_wp2
    refine bodyPost_ret (v := .agg #[.int .i64 o, .int .i64 fl, .string (ba t), .int .i64 n, .slice A m c]) (by simp [results, Tryz.results74, go_sem, z2, r0, r1, r2, r3, r4]) rfl ?_
    have hst' : PSt (w.alloc qObj) (w2.setCell ⟨b, 1, none⟩ (.int .i64 j)) b s d q (R.then fun q b => if shutB (peekQ s b).tok then .ok q (peekQ s b).dst else .err 2 (peekQ s b).src) := by
      rw [HJ.out]
      cases hRc : R with
      | ok q0 a0 =>
        have h1 := HS2.out
        have h2 := HX.out
        subst hRc
        show PSt _ _ b s d q (if shutB (peekQ s a0).tok = true then .ok q0 (peekQ s a0).dst else _)
        rw [show peekQ s a0 = X from h2, if_pos HC.out]
        exact ⟨h1.1, h1.2.at_ _⟩
      | err e0 a0 => exact absurd (HFIN.out e0 a0 hRc) (by rw [HC.out]; decide)
    have hw' := (put5_off (w2.setCell ⟨b, 1, none⟩ (.int .i64 j)) w.heap.size (.int .i64 o) (.int .i64 fl) (.string (ba t)) (.int .i64 n) (.slice A m c)).alloc (.cells #[.int .i64 k, .int .i64 sn, .int .i64 j, .string T, .int .i64 ff, .bool z] 41)
    have hq' := (HQ2.out.off ((Off.refl (fun k => k = b) w2).setCell (p := ⟨b, 1, none⟩) (.inl rfl) (.int .i64 j)) (fun k e => by rw [hz]; omega) (Nat.le_refl _)).off hw' (B' := w.heap.size) (fun k e => by rw [hz]; omega) (by rw [hz]; omega)
    exact PEnd.out (r := ⟨o, fl, t, n, (A, m, c)⟩) hbw (HOO.out.setCell (p := ⟨b, 1, none⟩) (.inl rfl) _) hst' hw' (fun W W' h => ⟨q, hq', h⟩) HK.out
  · have hc2 : shutB X.tok = false := by simpa using hc
    have hk2 := HNS.out hc2
    have HC := Lib.hid hc2
    have HFL := Lib.hid (qfail_st s b d 2 X.src (w.alloc qObj) (w2.alloc (.cells #[.int .i64 k, .int .i64 sn, .int .i64 j, .string T, .int .i64 ff, .bool z] 41)) q R hs (by have := World.size_alloc w2 (.cells #[.int .i64 k, .int .i64 sn, .int .i64 j, .string T, .int .i64 ff, .bool z] 41); omega) (HS2.out.kept (F := fun _ => False) (off_new _ _ _) (fun x => x) (fun _ x => x.elim)))
    rw [HSN.out] at HFL
    clear hc hc2
    go_wp2_with fail
    refine HFL.out.mono ?_
    rintro e w3 ⟨rfl, ho3, hst3⟩
    have HZ3 : QzAt w3 w.heap.size := (ho3.block _ (by rw [World.size_alloc]; omega) hne1).trans ((heap_alloc_old _ _ z2).trans HZ2H.out)
    have HST3 := Lib.hid (hst3 noQ)
    have HO3 := Lib.hid (((HOO.out.alloc _).trans ho3))
    clear r0 r1 r2 r3 r4 rf p0 p1 p2 p3 pf plt x0 x1 x2 x3 x4 xl
    obtain ⟨r0, r1, r2, r3, r4, rf⟩ := HZ3.cells
    clear ho3 hst3 HZ3
    rw [noRaw_val]
    go_wp2
    refine bodyPost_ret (v := .agg #[.int .i64 0, .int .i64 0, .string ⟨#[]⟩, .int .i64 0, .slice none 0 0]) (by simp [results, Tryz.results74, go_sem, r0, r1, r2, r3, r4]) rfl ?_
    have hRR : (R.then fun q b => if shutB (peekQ s b).tok then .ok q (peekQ s b).dst else .err 2 (peekQ s b).src) = R.then fun _ _ => .err 2 X.src := by
      cases hRc : R with
      | ok q0 a0 =>
        have h2 := HX.out
        subst hRc
        show (if shutB (peekQ s a0).tok = true then QRes.ok q0 (peekQ s a0).dst else .err 2 (peekQ s a0).src) = _
        rw [show peekQ s a0 = X from h2, HC.out]
        rfl
      | err e0 a0 => rfl
    rw [hRR]
    exact PEnd.out (r := noRaw) hbw HO3.out HST3.out (put5_off w3 w.heap.size _ _ _ _ _) (fun W W' h => ⟨noQ, QDeep.leaf _ _ 0 0 [] 0, h⟩) noRaw_ok
end Go.Proofs.YtomcdhmcjndioaaGreatDoor
end
section
namespace Go.Proofs.YtomcdhmcjndioaaGreatDoor
open Go.RowKit
set_option linter.unusedVariables false

theorem PEnd.less {w w0 w' : World} {b d : Nat} {s : List UInt8} {R : QRes} {e : Ending} (h : PEnd w0 b s d R e w') (ho : Off (fun k => k = b) w w0) : PEnd w b s d R e w' := by
  obtain ⟨r, q, he, hq, hk, h1, h2⟩ := h
  refine ⟨r, q, he, hq.more ho.size, hk, ho.trans h1, ?_⟩
  cases R with
  | ok q0 a => exact h2
  | err er a =>
    obtain ⟨g, g1, g2⟩ := h2
    exact ⟨g, Nat.le_trans ho.size g1, g2⟩
theorem PSt.deep {w0 W : World} {b d d' : Nat} {s : List UInt8} {q : Qry} {R : QRes} (h : PSt w0 W b s d q R) : PSt w0 (W.setCell ⟨b, 2, none⟩ (.int .i64 (d' : Int))) b s d' q R := by
  cases R with
  | ok q0 a => exact ⟨h.1, h.2.deep d'⟩
  | err er a =>
    obtain ⟨g, h1, h2, h3, h4⟩ := h
    exact ⟨g, h1, h2, h3.deep d', h4.off ((Off.refl (fun k => k = b) W).setCell (.inl rfl) _) h2⟩
theorem PSt.base {w0 w1 W : World} {b d : Nat} {s : List UInt8} {q : Qry} {R : QRes} (h : PSt w0 W b s d q R) (hs : w1.heap.size ≤ w0.heap.size) : PSt w1 W b s d q R := by
  cases R with
  | ok q0 a => exact h
  | err er a =>
    obtain ⟨g, h1, h2⟩ := h
    exact ⟨g, Nat.le_trans hs h1, h2⟩
set_option maxRecDepth 100000 in
set_option maxHeartbeats 4000000 in
theorem qdeeper_not (s : List UInt8) (b d B0 a src : Nat) (k j ff : Int) (T : ByteArray) (z : Bool) (R : QRes) (w : World) (hs : s.length ≤ 1000000) (hd : d ≤ 8)
    (hF : d < 8 → ∀ W : World, Psr W b s a (d + 1) (.pointer none) → QTB W B0 → Calls Tryz.prog 73 #[.pointer (some ⟨b, 0, none⟩)] W (PEnd W b s (d + 1) R)) (hp : Psr w b s a d (.pointer none)) (ht : QTB w B0) (hB : B0 ≤ b) :
    Calls Tryz.prog 72 #[.pointer (some ⟨b, 0, none⟩), .agg #[.int .i64 k, .int .i64 (src : Nat), .int .i64 j, .string T, .int .i64 ff, .bool z], .func (.func 73) #[.pointer (some ⟨b, 0, none⟩)] #[]] w (PEnd w b s d (if 8 ≤ d then .err 10 src else R)) := by
  have hbw := heap_lt hp
  obtain ⟨P, hP⟩ : ∃ P : Obj, .cells #[.int .i64 k, .int .i64 (src : Nat), .int .i64 j, .string T, .int .i64 ff, .bool z] 41 = P := ⟨_, rfl⟩
  have hob : Below w.heap.size w ((w.alloc P).alloc qObj) := ((Below.refl w.heap.size w).alloc (Nat.le_refl _) _).alloc (by simp) _
  have hz : ((w.alloc P).alloc qObj).heap.size = w.heap.size + 2 := by simp
  have hz1 : (w.alloc P).heap.size = w.heap.size + 1 := by simp
  have HPP := Lib.hid (hp.below hob hbw)
  have HTB := Lib.hid (ht.below (hob.mono (show B0 ≤ w.heap.size by omega)))
  have HZ0 := Lib.hid (qzAt_new (w.alloc P))
  have HO1 := Lib.hid (off_new w (fun k => k = b) P)
  have HO2 := Lib.hid (off_new (w.alloc P) (fun k => k = b) qObj)
  have HPH := Lib.hid hP
  obtain ⟨p0, p1, p2, p3, pf, plt⟩ := hp.cells
  have hne1 : ¬ w.heap.size = b := by omega
  have hne2 : ¬ b = w.heap.size := by omega
  have hne3 : ¬ w.heap.size + 1 = b := by omega
  have hne4 : ¬ b = w.heap.size + 1 := by omega
  by_cases hc : 8 ≤ d
  · rw [if_pos hc]
    have hdi : (decide (8 ≤ (d : Int))) = true := by simp; omega
    have HFL := Lib.hid (qfail_new s b a d 10 src ((w.alloc P).alloc qObj) hs HPP.out)
    clear hp ht hob hF hP
    go_enter Tryz.func72, Tryz.ntmps72
    go_wp2_with fail
    rw [HPH.out]
    refine HFL.out.mono ?_
    rintro e w3 ⟨rfl, ho3, g, hg1, hg2, hg3, hg4⟩
    have HZ3 : QzAt w3 (w.heap.size + 1) := (ho3.block _ (by rw [hz]; omega) (by omega)).trans (by rw [← hz1]; exact HZ0.out)
    have HG := Lib.hid (show PSt ((w.alloc P).alloc qObj) w3 b s d noQ (.err 10 src) from ⟨g, hg1, hg2, hg3, hg4⟩)
    have HO3 := Lib.hid ho3
    have z3 : w.heap.size + 1 < w3.heap.size := heap_lt HZ3
    obtain ⟨r0, r1, r2, r3, r4, rf⟩ := HZ3.cells
    clear ho3 hg1 hg2 hg3 hg4 HZ3 p0 p1 p2 p3 pf plt
    rw [noRaw_val]
    go_wp2
    refine bodyPost_ret (v := .agg #[.int .i64 0, .int .i64 0, .string ⟨#[]⟩, .int .i64 0, .slice none 0 0]) (by simp [results, Tryz.results72, go_sem, r0, r1, r2, r3, r4]) rfl ?_
    have h5 := put5_off w3 (w.heap.size + 1) (.int .i64 0) (.int .i64 0) (.string ⟨#[]⟩) (.int .i64 0) (.slice none 0 0)
    refine ⟨noRaw, noQ, rfl, QDeep.leaf _ _ 0 0 [] 0, noRaw_ok, ((HO1.out.trans HO2.out).trans HO3.out).andThen h5 (fun i hi e => by omega), ?_⟩
    exact (HG.out.kept h5 (fun e => by omega) (fun k e => by rw [hz]; omega)).base (by rw [hz]; omega)
  · rw [if_neg hc]
    have hdi : (decide (8 ≤ (d : Int))) = false := by simp; omega
    have hcast : (((d + 1 : Nat)) : Int) = (d : Int) + 1 := by omega
    have hq0 : Psr (w.setCell ⟨b, 2, none⟩ (.int .i64 ((d : Int) + 1))) b s a (d + 1) (.pointer none) := by
      have h := hp.deep (d + 1)
      rw [hcast] at h
      exact h
    have hoW : Off (fun k => k = b) w (w.setCell ⟨b, 2, none⟩ (.int .i64 ((d : Int) + 1))) := (Off.refl (fun k => k = b) w).setCell (p := ⟨b, 2, none⟩) (.inl rfl) _
    have hsW : (w.setCell ⟨b, 2, none⟩ (.int .i64 ((d : Int) + 1))).heap.size = w.heap.size := by simp
    have htW := ht.off hB hbw hoW
    obtain ⟨W0, hW0⟩ : ∃ W0, w.setCell ⟨b, 2, none⟩ (.int .i64 ((d : Int) + 1)) = W0 := ⟨_, rfl⟩
    rw [hW0] at hq0 hoW hsW htW
    have hobW : Below W0.heap.size W0 ((W0.alloc P).alloc qObj) := ((Below.refl W0.heap.size W0).alloc (Nat.le_refl _) _).alloc (by simp) _
    have hzW : ((W0.alloc P).alloc qObj).heap.size = w.heap.size + 2 := by simp [hsW]
    have HZW := Lib.hid (show QzAt ((W0.alloc P).alloc qObj) (w.heap.size + 1) by
      have h := qzAt_new (W0.alloc P)
      rw [World.size_alloc, hsW] at h
      exact h)
    have HFF := Lib.hid (hF (by omega) ((W0.alloc P).alloc qObj) (hq0.below hobW (by omega)) (htW.below (hobW.mono (show B0 ≤ W0.heap.size by omega))))
    have HOW := Lib.hid ((hoW.alloc P).alloc qObj)
    have HWW := Lib.hid hW0
    clear hp ht hob hF hP hq0 hoW htW hobW hW0
    go_enter Tryz.func72, Tryz.ntmps72
    go_wp2_with fail
    rw [HPH.out, HWW.out]
    refine HFF.out.mono ?_
    rintro e w1 ⟨⟨o, fl, t, n, A, m, c⟩, q, rfl, hq, hk, ho, hst⟩
    have z1 : w.heap.size + 1 < w1.heap.size := Nat.lt_of_lt_of_le (by rw [hzW]; omega) ho.size
    have HZ1 : QzAt w1 (w.heap.size + 1) := (ho.block _ (by rw [hzW]; omega) (by omega)).trans HZW.out
    obtain ⟨flt, hps⟩ := hst.psr
    clear p0 p1 p2 p3 pf plt
    obtain ⟨p0, p1, p2, p3, pf, plt⟩ := hps.cells
    obtain ⟨r0, r1, r2, r3, r4, rf⟩ := HZ1.cells
    obtain ⟨dd, hdd⟩ : ∃ x : Int, (((d + 1 : Nat)) : Int) = x := ⟨_, rfl⟩
    rw [hdd] at p2
    have hd1 : 0 ≤ dd ∧ dd ≤ 100 := by omega
    have HDD := Lib.hid (show dd - 1 = (d : Int) by omega)
    have HQ := Lib.hid hq
    have HK := Lib.hid hk
    have HO := Lib.hid ho
    have HS := Lib.hid hst
    have z2 : w.heap.size < w1.heap.size := by omega
    have hne5 : ¬ w1.heap.size = b := by omega
    have hne6 : ¬ b = w1.heap.size := by omega
    have hne7 : ¬ w1.heap.size = w.heap.size + 1 := by omega
    have hne8 : ¬ w.heap.size + 1 = w1.heap.size := by omega
    clear hq hk ho hst HZ1 hps hdd hcast
    unfold RawQ.val
    dsimp only
    go_wp2
    refine bodyPost_ret (v := .agg #[.int .i64 o, .int .i64 fl, .string (ba t), .int .i64 n, .slice A m c]) (by simp [results, Tryz.results72, go_sem, z1, r0, r1, r2, r3, r4]) rfl ?_
    rw [HDD.out]
    have h6 : Off (fun k => k = b) w1 (w1.setCell ⟨b, 2, none⟩ (.int .i64 (d : Int))) := (Off.refl (fun k => k = b) w1).setCell (p := ⟨b, 2, none⟩) (.inl rfl) _
    have h5 := (put5_off (w1.setCell ⟨b, 2, none⟩ (.int .i64 (d : Int))) (w.heap.size + 1) (.int .i64 o) (.int .i64 fl) (.string (ba t)) (.int .i64 n) (.slice A m c)).alloc (.cells #[.int .i64 o, .int .i64 fl, .string (ba t), .int .i64 n, .slice A m c] 25)
    have hq' := (HQ.out.off h6 (fun k e => by rw [hzW]; omega) (Nat.le_refl _)).off h5 (B' := w.heap.size) (fun k e => by rw [hzW]; omega) (by rw [hzW]; omega)
    refine ⟨⟨o, fl, t, n, (A, m, c)⟩, q, rfl, hq', HK.out, ((HOW.out.trans HO.out).trans h6).andThen h5 (fun i hi e => by omega), ?_⟩
    exact ((HS.out.deep (d' := d)).kept h5 (fun e => by omega) (fun k e => by rw [hzW]; omega)).base (by rw [hzW]; omega)
set_option maxRecDepth 100000 in
set_option maxHeartbeats 4000000 in
theorem qdeeper_bracket (s : List UInt8) (b d B0 a src : Nat) (k j ff : Int) (T : ByteArray) (z : Bool) (R : QRes) (w : World) (hs : s.length ≤ 1000000) (hd : d ≤ 8)
    (hF : d < 8 → ∀ W : World, Psr W b s a (d + 1) (.pointer none) → QTB W B0 → Calls Tryz.prog 74 #[.pointer (some ⟨b, 0, none⟩)] W (PEnd W b s (d + 1) R)) (hp : Psr w b s a d (.pointer none)) (ht : QTB w B0) (hB : B0 ≤ b) :
    Calls Tryz.prog 72 #[.pointer (some ⟨b, 0, none⟩), .agg #[.int .i64 k, .int .i64 (src : Nat), .int .i64 j, .string T, .int .i64 ff, .bool z], .func (.func 74) #[.pointer (some ⟨b, 0, none⟩)] #[]] w (PEnd w b s d (if 8 ≤ d then .err 10 src else R)) := by
  have hbw := heap_lt hp
  obtain ⟨P, hP⟩ : ∃ P : Obj, .cells #[.int .i64 k, .int .i64 (src : Nat), .int .i64 j, .string T, .int .i64 ff, .bool z] 41 = P := ⟨_, rfl⟩
  have hob : Below w.heap.size w ((w.alloc P).alloc qObj) := ((Below.refl w.heap.size w).alloc (Nat.le_refl _) _).alloc (by simp) _
  have hz : ((w.alloc P).alloc qObj).heap.size = w.heap.size + 2 := by simp
  have hz1 : (w.alloc P).heap.size = w.heap.size + 1 := by simp
  have HPP := Lib.hid (hp.below hob hbw)
  have HTB := Lib.hid (ht.below (hob.mono (show B0 ≤ w.heap.size by omega)))
  have HZ0 := Lib.hid (qzAt_new (w.alloc P))
  have HO1 := Lib.hid (off_new w (fun k => k = b) P)
  have HO2 := Lib.hid (off_new (w.alloc P) (fun k => k = b) qObj)
  have HPH := Lib.hid hP
  obtain ⟨p0, p1, p2, p3, pf, plt⟩ := hp.cells
  have hne1 : ¬ w.heap.size = b := by omega
  have hne2 : ¬ b = w.heap.size := by omega
  have hne3 : ¬ w.heap.size + 1 = b := by omega
  have hne4 : ¬ b = w.heap.size + 1 := by omega
  by_cases hc : 8 ≤ d
  · rw [if_pos hc]
    have hdi : (decide (8 ≤ (d : Int))) = true := by simp; omega
    have HFL := Lib.hid (qfail_new s b a d 10 src ((w.alloc P).alloc qObj) hs HPP.out)
    clear hp ht hob hF hP
    go_enter Tryz.func72, Tryz.ntmps72
    go_wp2_with fail
    rw [HPH.out]
    refine HFL.out.mono ?_
    rintro e w3 ⟨rfl, ho3, g, hg1, hg2, hg3, hg4⟩
    have HZ3 : QzAt w3 (w.heap.size + 1) := (ho3.block _ (by rw [hz]; omega) (by omega)).trans (by rw [← hz1]; exact HZ0.out)
    have HG := Lib.hid (show PSt ((w.alloc P).alloc qObj) w3 b s d noQ (.err 10 src) from ⟨g, hg1, hg2, hg3, hg4⟩)
    have HO3 := Lib.hid ho3
    have z3 : w.heap.size + 1 < w3.heap.size := heap_lt HZ3
    obtain ⟨r0, r1, r2, r3, r4, rf⟩ := HZ3.cells
    clear ho3 hg1 hg2 hg3 hg4 HZ3 p0 p1 p2 p3 pf plt
    rw [noRaw_val]
    go_wp2
    refine bodyPost_ret (v := .agg #[.int .i64 0, .int .i64 0, .string ⟨#[]⟩, .int .i64 0, .slice none 0 0]) (by simp [results, Tryz.results72, go_sem, r0, r1, r2, r3, r4]) rfl ?_
    have h5 := put5_off w3 (w.heap.size + 1) (.int .i64 0) (.int .i64 0) (.string ⟨#[]⟩) (.int .i64 0) (.slice none 0 0)
    refine ⟨noRaw, noQ, rfl, QDeep.leaf _ _ 0 0 [] 0, noRaw_ok, ((HO1.out.trans HO2.out).trans HO3.out).andThen h5 (fun i hi e => by omega), ?_⟩
    exact (HG.out.kept h5 (fun e => by omega) (fun k e => by rw [hz]; omega)).base (by rw [hz]; omega)
  · rw [if_neg hc]
    have hdi : (decide (8 ≤ (d : Int))) = false := by simp; omega
    have hcast : (((d + 1 : Nat)) : Int) = (d : Int) + 1 := by omega
    have hq0 : Psr (w.setCell ⟨b, 2, none⟩ (.int .i64 ((d : Int) + 1))) b s a (d + 1) (.pointer none) := by
      have h := hp.deep (d + 1)
      rw [hcast] at h
      exact h
    have hoW : Off (fun k => k = b) w (w.setCell ⟨b, 2, none⟩ (.int .i64 ((d : Int) + 1))) := (Off.refl (fun k => k = b) w).setCell (p := ⟨b, 2, none⟩) (.inl rfl) _
    have hsW : (w.setCell ⟨b, 2, none⟩ (.int .i64 ((d : Int) + 1))).heap.size = w.heap.size := by simp
    have htW := ht.off hB hbw hoW
    obtain ⟨W0, hW0⟩ : ∃ W0, w.setCell ⟨b, 2, none⟩ (.int .i64 ((d : Int) + 1)) = W0 := ⟨_, rfl⟩
    rw [hW0] at hq0 hoW hsW htW
    have hobW : Below W0.heap.size W0 ((W0.alloc P).alloc qObj) := ((Below.refl W0.heap.size W0).alloc (Nat.le_refl _) _).alloc (by simp) _
    have hzW : ((W0.alloc P).alloc qObj).heap.size = w.heap.size + 2 := by simp [hsW]
    have HZW := Lib.hid (show QzAt ((W0.alloc P).alloc qObj) (w.heap.size + 1) by
      have h := qzAt_new (W0.alloc P)
      rw [World.size_alloc, hsW] at h
      exact h)
    have HFF := Lib.hid (hF (by omega) ((W0.alloc P).alloc qObj) (hq0.below hobW (by omega)) (htW.below (hobW.mono (show B0 ≤ W0.heap.size by omega))))
    have HOW := Lib.hid ((hoW.alloc P).alloc qObj)
    have HWW := Lib.hid hW0
    clear hp ht hob hF hP hq0 hoW htW hobW hW0
    go_enter Tryz.func72, Tryz.ntmps72
    go_wp2_with fail
    rw [HPH.out, HWW.out]
    refine HFF.out.mono ?_
    rintro e w1 ⟨⟨o, fl, t, n, A, m, c⟩, q, rfl, hq, hk, ho, hst⟩
    have z1 : w.heap.size + 1 < w1.heap.size := Nat.lt_of_lt_of_le (by rw [hzW]; omega) ho.size
    have HZ1 : QzAt w1 (w.heap.size + 1) := (ho.block _ (by rw [hzW]; omega) (by omega)).trans HZW.out
    obtain ⟨flt, hps⟩ := hst.psr
    clear p0 p1 p2 p3 pf plt
    obtain ⟨p0, p1, p2, p3, pf, plt⟩ := hps.cells
    obtain ⟨r0, r1, r2, r3, r4, rf⟩ := HZ1.cells
    obtain ⟨dd, hdd⟩ : ∃ x : Int, (((d + 1 : Nat)) : Int) = x := ⟨_, rfl⟩
    rw [hdd] at p2
    have hd1 : 0 ≤ dd ∧ dd ≤ 100 := by omega
    have HDD := Lib.hid (show dd - 1 = (d : Int) by omega)
    have HQ := Lib.hid hq
    have HK := Lib.hid hk
    have HO := Lib.hid ho
    have HS := Lib.hid hst
    have z2 : w.heap.size < w1.heap.size := by omega
    have hne5 : ¬ w1.heap.size = b := by omega
    have hne6 : ¬ b = w1.heap.size := by omega
    have hne7 : ¬ w1.heap.size = w.heap.size + 1 := by omega
    have hne8 : ¬ w.heap.size + 1 = w1.heap.size := by omega
    clear hq hk ho hst HZ1 hps hdd hcast
    unfold RawQ.val
    dsimp only
    go_wp2
    refine bodyPost_ret (v := .agg #[.int .i64 o, .int .i64 fl, .string (ba t), .int .i64 n, .slice A m c]) (by simp [results, Tryz.results72, go_sem, z1, r0, r1, r2, r3, r4]) rfl ?_
    rw [HDD.out]
    have h6 : Off (fun k => k = b) w1 (w1.setCell ⟨b, 2, none⟩ (.int .i64 (d : Int))) := (Off.refl (fun k => k = b) w1).setCell (p := ⟨b, 2, none⟩) (.inl rfl) _
    have h5 := (put5_off (w1.setCell ⟨b, 2, none⟩ (.int .i64 (d : Int))) (w.heap.size + 1) (.int .i64 o) (.int .i64 fl) (.string (ba t)) (.int .i64 n) (.slice A m c)).alloc (.cells #[.int .i64 o, .int .i64 fl, .string (ba t), .int .i64 n, .slice A m c] 25)
    have hq' := (HQ.out.off h6 (fun k e => by rw [hzW]; omega) (Nat.le_refl _)).off h5 (B' := w.heap.size) (fun k e => by rw [hzW]; omega) (by rw [hzW]; omega)
    refine ⟨⟨o, fl, t, n, (A, m, c)⟩, q, rfl, hq', HK.out, ((HOW.out.trans HO.out).trans h6).andThen h5 (fun i hi e => by omega), ?_⟩
    exact ((HS.out.deep (d' := d)).kept h5 (fun e => by omega) (fun k e => by rw [hzW]; omega)).base (by rw [hzW]; omega)
end Go.Proofs.YtomcdhmcjndioaaGreatDoor
end
