/- Layer 37: term, by the kind of its token (printed by gen_qtrm.py). Layer 37: term: one step of the induction. Layer 37, plain: a term that is read lies behind the place. -/
import Derived.Test.YtomcdhmcjndioaaGreatDoorV21
import Derived.Test.YtomcdhmcjndioaaGreatDoorV03
section
namespace Go.Proofs.YtomcdhmcjndioaaGreatDoor
open Go.RowKit
set_option linter.unusedVariables false

theorem ts_new {w w1 : World} {b a d : Nat} {s : List UInt8} {fl : Value} {k i j f : Int} {t : ByteArray} {z : Bool} (hp : Psr w b s a d fl) (hb : Below (w.alloc qObj).heap.size (w.alloc qObj) w1) :
    TS w (w1.alloc (.cells #[.int .i64 k, .int .i64 i, .int .i64 j, .string t, .int .i64 f, .bool z] 41)) b s a d fl w1.heap.size k i j t f z := by
  have hbw := heap_lt hp
  have h0 : Below w.heap.size w (w.alloc qObj) := (Below.refl w.heap.size w).alloc (Nat.le_refl _) _
  have hz : (w.alloc qObj).heap.size = w.heap.size + 1 := by simp
  have hs := hb.size
  have h1 : Below w1.heap.size w1 (w1.alloc (.cells #[.int .i64 k, .int .i64 i, .int .i64 j, .string t, .int .i64 f, .bool z] 41)) := (Below.refl w1.heap.size w1).alloc (Nat.le_refl _) _
  refine ⟨((hp.below h0 hbw).below hb (by omega)).below h1 (by omega), ((qzAt_new w).below hb (by omega)).below h1 (by omega), (MapKept.heap_alloc w1 _).1, ?_, by omega, hbw⟩
  exact Off.of_below ((h0.trans (hb.mono (by omega))).trans (h1.mono (by omega))) (fun k h1 h2 => by omega)
/-- A term's end: the result put into its block. -/
theorem term_end {w W w' : World} {b d : Nat} {s : List UInt8} {R : QRes} {r : RawQ} {q : Qry} {B : Nat} (hb : b < w.heap.size) (ho : Off (fun k => k = b) w W) (hB : w.heap.size < B) (hq : QOwn W B r q) (hk : RawOk r) (hs : PSt w W b s d q R) (hg : ∀ e a, R = .err e a → ∃ g, w.heap.size < g ∧ g ≠ b ∧ Psr W b s s.length d (.pointer (some ⟨g, 0, none⟩)) ∧ Flt W g e a) (h1 : Off (fun k => k = w.heap.size) W w') : PEnd w b s d R (.returned (RawQ.val r)) w' := by
  refine ⟨r, q, rfl, hq.off h1 (fun k e => by omega) (Nat.le_of_lt hB), hk, ho.andThen h1 (fun i hi e => by omega), ?_⟩
  cases R with
  | ok q0 a => exact ⟨hs.1, hs.2.off h1 (by omega)⟩
  | err er a =>
    obtain ⟨g, g1, g2, g3, g4⟩ := hg er a rfl
    exact ⟨g, Nat.le_of_lt g1, g2, g3.off h1 (by omega), g4.off h1 (by omega)⟩
theorem TS.at_ {w W : World} {b a d gx : Nat} {s : List UInt8} {fl : Value} {k i j f : Int} {t : ByteArray} {z : Bool} (h : TS w W b s a d fl gx k i j t f z) (a' : Nat) : TS w (W.setCell ⟨b, 1, none⟩ (.int .i64 (a' : Int))) b s a' d fl gx k i j t f z :=
  ⟨h.psr.at_ a', (heap_setCell_other W ⟨b, 1, none⟩ w.heap.size _ (by have := h.ord.2; intro e; simp only at e; omega)).trans h.res, (heap_setCell_other W ⟨b, 1, none⟩ gx _ (by have := h.ord; intro e; simp only at e; omega)).trans h.box, h.off.setCell (p := ⟨b, 1, none⟩) (.inl rfl) _, h.ord⟩
theorem PSt.gap {w W w9 : World} {b d : Nat} {s : List UInt8} {q : Qry} {R : QRes} (h : PSt W w9 b s d q R) (hz : w.heap.size < W.heap.size) : ∀ e a, R = .err e a → ∃ g, w.heap.size < g ∧ g ≠ b ∧ Psr w9 b s s.length d (.pointer (some ⟨g, 0, none⟩)) ∧ Flt w9 g e a := by
  intro e a he
  subst he
  obtain ⟨g, h1, h2⟩ := h
  exact ⟨g, by omega, h2⟩
set_option maxRecDepth 100000 in
set_option maxHeartbeats 4000000 in
theorem qterm_fin (s : List UInt8) (b d B0 a src dst : Nat) (w : World) (hs : s.length ≤ 1000) (ha : a ≤ s.length) (hd : d ≤ 8) (hx : peekQ s a = ⟨src, dst, .fin⟩) (hp : Psr w b s a d (.pointer none)) (ht : QTB w B0) (hB : B0 ≤ b) :
    Calls Tryz.prog 50 #[.pointer (some ⟨b, 0, none⟩)] w (PEnd w b s d (.err 2 src)) := by
  have hbw := heap_lt hp
  have hin := peek_in s a ha
  rw [hx] at hin
  dsimp only at hin
  have hpx := hp.below ((Below.refl w.heap.size w).alloc (Nat.le_refl _) qObj) hbw
  obtain ⟨p0, p1, p2, p3, pf, plt⟩ := hpx.cells
  have htx : QTB (w.alloc qObj) B0 := ht.below ((Below.refl B0 w).alloc (by omega) _)
  have hpk := qpeek_any s a b (w.alloc qObj) (by omega) ha (htx.tabs (by omega)) p0 p1
  rw [hx] at hpk
  have HPK := Lib.hid hpk
  have HP := Lib.hid hp
  have HTB := Lib.hid ht
  clear hp ht hpx htx hpk hx p0 p1 p2 p3 pf plt
  go_enter Tryz.func50, Tryz.ntmps50
  go_wp2_with fail
  refine HPK.out.mono ?_
  rintro e w1 ⟨rfl, hb1⟩
  simp only [pcV]
  have HT1 := Lib.hid (ts_new (k := 0) (i := (src : Nat)) (j := (dst : Nat)) (t := ⟨#[]⟩) (f := 0) (z := false) HP.out hb1)
  have hne : ¬ b = w.heap.size := by omega
  have hne2 : ¬ w.heap.size = b := by omega
  have z1 : w.heap.size < w1.heap.size := Nat.lt_of_lt_of_le (by simp) hb1.size
  have hb1x : b < w1.heap.size := by omega
  clear hb1
  obtain ⟨p0, p1, p2, p3, pf, plt⟩ := HT1.out.psr.cells
  obtain ⟨r0, r1, r2, r3, r4, rf⟩ := HT1.out.res.cells
  obtain ⟨x0, x1, x2, x3, x4, x5, xf, xl⟩ := HT1.out.box.cells
  have HFL := Lib.hid (qfail_new s b a d 2 src (w1.alloc (.cells #[.int .i64 0, .int .i64 (src : Nat), .int .i64 (dst : Nat), .string ⟨#[]⟩, .int .i64 0, .bool false] 41)) (by omega) HT1.out.psr)
  have HZF := Lib.hid (heap_lt HT1.out.res)
  go_wp2_with fail
  refine HFL.out.mono ?_
  rintro e w9 ⟨rfl, ho9, g, hg1, hg2, hg3, hg4⟩
  have HZ9 : QzAt w9 w.heap.size := (ho9.block _ HZF.out hne2).trans HT1.out.res
  have HO9 := Lib.hid (HT1.out.off.trans ho9)
  have HGG := Lib.hid (show ∃ g, w.heap.size < g ∧ g ≠ b ∧ Psr w9 b s s.length d (.pointer (some ⟨g, 0, none⟩)) ∧ Flt w9 g 2 src from ⟨g, Nat.lt_of_lt_of_le HZF.out hg1, hg2, hg3, hg4⟩)
  clear ho9 hg1 hg2 hg3 hg4
  clear r0 r1 r2 r3 r4 rf p0 p1 p2 p3 pf plt x0 x1 x2 x3 x4 x5 xf xl
  obtain ⟨r0, r1, r2, r3, r4, rf⟩ := HZ9.cells
  clear HZ9
  rw [noRaw_val]
  go_wp2
  refine bodyPost_ret (v := .agg #[.int .i64 0, .int .i64 0, .string ⟨#[]⟩, .int .i64 0, .slice none 0 0]) (by simp [results, Tryz.results50, go_sem, r0, r1, r2, r3, r4]) rfl ?_
  refine term_end (r := noRaw) (q := noQ) (B := w.heap.size + 1) hbw HO9.out (Nat.lt_succ_self _) (QDeep.leaf _ _ 0 0 [] 0) noRaw_ok ?_ (fun e a he => ?_) (put5_off w9 w.heap.size _ _ _ _ _)
  · obtain ⟨g, h1, h2⟩ := HGG.out
    exact ⟨g, Nat.le_of_lt h1, h2⟩
  · injection he with e1 e2
    subst e1
    subst e2
    exact HGG.out
set_option maxRecDepth 100000 in
set_option maxHeartbeats 4000000 in
theorem qterm_sht (s : List UInt8) (b d B0 a src dst : Nat) (w : World) (hs : s.length ≤ 1000) (ha : a ≤ s.length) (hd : d ≤ 8) (hx : peekQ s a = ⟨src, dst, .sht⟩) (hp : Psr w b s a d (.pointer none)) (ht : QTB w B0) (hB : B0 ≤ b) :
    Calls Tryz.prog 50 #[.pointer (some ⟨b, 0, none⟩)] w (PEnd w b s d (.err 2 src)) := by
  have hbw := heap_lt hp
  have hin := peek_in s a ha
  rw [hx] at hin
  dsimp only at hin
  have hpx := hp.below ((Below.refl w.heap.size w).alloc (Nat.le_refl _) qObj) hbw
  obtain ⟨p0, p1, p2, p3, pf, plt⟩ := hpx.cells
  have htx : QTB (w.alloc qObj) B0 := ht.below ((Below.refl B0 w).alloc (by omega) _)
  have hpk := qpeek_any s a b (w.alloc qObj) (by omega) ha (htx.tabs (by omega)) p0 p1
  rw [hx] at hpk
  have HPK := Lib.hid hpk
  have HP := Lib.hid hp
  have HTB := Lib.hid ht
  clear hp ht hpx htx hpk hx p0 p1 p2 p3 pf plt
  go_enter Tryz.func50, Tryz.ntmps50
  go_wp2_with fail
  refine HPK.out.mono ?_
  rintro e w1 ⟨rfl, hb1⟩
  simp only [pcV]
  have HT1 := Lib.hid (ts_new (k := 2) (i := (src : Nat)) (j := (dst : Nat)) (t := ⟨#[]⟩) (f := 0) (z := false) HP.out hb1)
  have hne : ¬ b = w.heap.size := by omega
  have hne2 : ¬ w.heap.size = b := by omega
  have z1 : w.heap.size < w1.heap.size := Nat.lt_of_lt_of_le (by simp) hb1.size
  have hb1x : b < w1.heap.size := by omega
  clear hb1
  obtain ⟨p0, p1, p2, p3, pf, plt⟩ := HT1.out.psr.cells
  obtain ⟨r0, r1, r2, r3, r4, rf⟩ := HT1.out.res.cells
  obtain ⟨x0, x1, x2, x3, x4, x5, xf, xl⟩ := HT1.out.box.cells
  have HFL := Lib.hid (qfail_new s b a d 2 src (w1.alloc (.cells #[.int .i64 2, .int .i64 (src : Nat), .int .i64 (dst : Nat), .string ⟨#[]⟩, .int .i64 0, .bool false] 41)) (by omega) HT1.out.psr)
  have HZF := Lib.hid (heap_lt HT1.out.res)
  go_wp2_with fail
  refine HFL.out.mono ?_
  rintro e w9 ⟨rfl, ho9, g, hg1, hg2, hg3, hg4⟩
  have HZ9 : QzAt w9 w.heap.size := (ho9.block _ HZF.out hne2).trans HT1.out.res
  have HO9 := Lib.hid (HT1.out.off.trans ho9)
  have HGG := Lib.hid (show ∃ g, w.heap.size < g ∧ g ≠ b ∧ Psr w9 b s s.length d (.pointer (some ⟨g, 0, none⟩)) ∧ Flt w9 g 2 src from ⟨g, Nat.lt_of_lt_of_le HZF.out hg1, hg2, hg3, hg4⟩)
  clear ho9 hg1 hg2 hg3 hg4
  clear r0 r1 r2 r3 r4 rf p0 p1 p2 p3 pf plt x0 x1 x2 x3 x4 x5 xf xl
  obtain ⟨r0, r1, r2, r3, r4, rf⟩ := HZ9.cells
  clear HZ9
  rw [noRaw_val]
  go_wp2
  refine bodyPost_ret (v := .agg #[.int .i64 0, .int .i64 0, .string ⟨#[]⟩, .int .i64 0, .slice none 0 0]) (by simp [results, Tryz.results50, go_sem, r0, r1, r2, r3, r4]) rfl ?_
  refine term_end (r := noRaw) (q := noQ) (B := w.heap.size + 1) hbw HO9.out (Nat.lt_succ_self _) (QDeep.leaf _ _ 0 0 [] 0) noRaw_ok ?_ (fun e a he => ?_) (put5_off w9 w.heap.size _ _ _ _ _)
  · obtain ⟨g, h1, h2⟩ := HGG.out
    exact ⟨g, Nat.le_of_lt h1, h2⟩
  · injection he with e1 e2
    subst e1
    subst e2
    exact HGG.out
set_option maxRecDepth 100000 in
set_option maxHeartbeats 4000000 in
theorem qterm_bad (s : List UInt8) (b d B0 a src dst : Nat) (w : World) (hs : s.length ≤ 1000) (ha : a ≤ s.length) (hd : d ≤ 8) (hx : peekQ s a = ⟨src, dst, .bad⟩) (hp : Psr w b s a d (.pointer none)) (ht : QTB w B0) (hB : B0 ≤ b) :
    Calls Tryz.prog 50 #[.pointer (some ⟨b, 0, none⟩)] w (PEnd w b s d (.err 2 src)) := by
  have hbw := heap_lt hp
  have hin := peek_in s a ha
  rw [hx] at hin
  dsimp only at hin
  have hpx := hp.below ((Below.refl w.heap.size w).alloc (Nat.le_refl _) qObj) hbw
  obtain ⟨p0, p1, p2, p3, pf, plt⟩ := hpx.cells
  have htx : QTB (w.alloc qObj) B0 := ht.below ((Below.refl B0 w).alloc (by omega) _)
  have hpk := qpeek_any s a b (w.alloc qObj) (by omega) ha (htx.tabs (by omega)) p0 p1
  rw [hx] at hpk
  have HPK := Lib.hid hpk
  have HP := Lib.hid hp
  have HTB := Lib.hid ht
  clear hp ht hpx htx hpk hx p0 p1 p2 p3 pf plt
  go_enter Tryz.func50, Tryz.ntmps50
  go_wp2_with fail
  refine HPK.out.mono ?_
  rintro e w1 ⟨rfl, hb1⟩
  simp only [pcV]
  have HT1 := Lib.hid (ts_new (k := 4) (i := (src : Nat)) (j := 0) (t := ⟨#[]⟩) (f := 0) (z := true) HP.out hb1)
  have hne : ¬ b = w.heap.size := by omega
  have hne2 : ¬ w.heap.size = b := by omega
  have z1 : w.heap.size < w1.heap.size := Nat.lt_of_lt_of_le (by simp) hb1.size
  have hb1x : b < w1.heap.size := by omega
  clear hb1
  obtain ⟨p0, p1, p2, p3, pf, plt⟩ := HT1.out.psr.cells
  obtain ⟨r0, r1, r2, r3, r4, rf⟩ := HT1.out.res.cells
  obtain ⟨x0, x1, x2, x3, x4, x5, xf, xl⟩ := HT1.out.box.cells
  have HFL := Lib.hid (qfail_new s b a d 2 src (w1.alloc (.cells #[.int .i64 4, .int .i64 (src : Nat), .int .i64 0, .string ⟨#[]⟩, .int .i64 0, .bool true] 41)) (by omega) HT1.out.psr)
  have HZF := Lib.hid (heap_lt HT1.out.res)
  go_wp2_with fail
  refine HFL.out.mono ?_
  rintro e w9 ⟨rfl, ho9, g, hg1, hg2, hg3, hg4⟩
  have HZ9 : QzAt w9 w.heap.size := (ho9.block _ HZF.out hne2).trans HT1.out.res
  have HO9 := Lib.hid (HT1.out.off.trans ho9)
  have HGG := Lib.hid (show ∃ g, w.heap.size < g ∧ g ≠ b ∧ Psr w9 b s s.length d (.pointer (some ⟨g, 0, none⟩)) ∧ Flt w9 g 2 src from ⟨g, Nat.lt_of_lt_of_le HZF.out hg1, hg2, hg3, hg4⟩)
  clear ho9 hg1 hg2 hg3 hg4
  clear r0 r1 r2 r3 r4 rf p0 p1 p2 p3 pf plt x0 x1 x2 x3 x4 x5 xf xl
  obtain ⟨r0, r1, r2, r3, r4, rf⟩ := HZ9.cells
  clear HZ9
  rw [noRaw_val]
  go_wp2
  refine bodyPost_ret (v := .agg #[.int .i64 0, .int .i64 0, .string ⟨#[]⟩, .int .i64 0, .slice none 0 0]) (by simp [results, Tryz.results50, go_sem, r0, r1, r2, r3, r4]) rfl ?_
  refine term_end (r := noRaw) (q := noQ) (B := w.heap.size + 1) hbw HO9.out (Nat.lt_succ_self _) (QDeep.leaf _ _ 0 0 [] 0) noRaw_ok ?_ (fun e a he => ?_) (put5_off w9 w.heap.size _ _ _ _ _)
  · obtain ⟨g, h1, h2⟩ := HGG.out
    exact ⟨g, Nat.le_of_lt h1, h2⟩
  · injection he with e1 e2
    subst e1
    subst e2
    exact HGG.out
set_option maxRecDepth 100000 in
set_option maxHeartbeats 4000000 in
theorem qterm_and (s : List UInt8) (b d B0 a src dst : Nat) (w : World) (hs : s.length ≤ 1000) (ha : a ≤ s.length) (hd : d ≤ 8) (hx : peekQ s a = ⟨src, dst, (.bare wAND)⟩) (hp : Psr w b s a d (.pointer none)) (ht : QTB w B0) (hB : B0 ≤ b) :
    Calls Tryz.prog 50 #[.pointer (some ⟨b, 0, none⟩)] w (PEnd w b s d (.err 2 src)) := by
  have hbw := heap_lt hp
  have hin := peek_in s a ha
  rw [hx] at hin
  dsimp only at hin
  have hpx := hp.below ((Below.refl w.heap.size w).alloc (Nat.le_refl _) qObj) hbw
  obtain ⟨p0, p1, p2, p3, pf, plt⟩ := hpx.cells
  have htx : QTB (w.alloc qObj) B0 := ht.below ((Below.refl B0 w).alloc (by omega) _)
  have hpk := qpeek_any s a b (w.alloc qObj) (by omega) ha (htx.tabs (by omega)) p0 p1
  rw [hx] at hpk
  have HPK := Lib.hid hpk
  have HP := Lib.hid hp
  have HTB := Lib.hid ht
  clear hp ht hpx htx hpk hx p0 p1 p2 p3 pf plt
  go_enter Tryz.func50, Tryz.ntmps50
  go_wp2_with fail
  refine HPK.out.mono ?_
  rintro e w1 ⟨rfl, hb1⟩
  simp only [pcV]
  have HT1 := Lib.hid (ts_new (k := 5) (i := (src : Nat)) (j := (dst : Nat)) (t := (ba wAND)) (f := 0) (z := false) HP.out hb1)
  have hne : ¬ b = w.heap.size := by omega
  have hne2 : ¬ w.heap.size = b := by omega
  have z1 : w.heap.size < w1.heap.size := Nat.lt_of_lt_of_le (by simp) hb1.size
  have hb1x : b < w1.heap.size := by omega
  clear hb1
  have hi := qis_any ⟨src, dst, .bare wAND⟩ wAND (w1.alloc (.cells #[.int .i64 5, .int .i64 (src : Nat), .int .i64 (dst : Nat), .string (ba wAND), .int .i64 0, .bool false] 41))
  rw [show isBare wAND (Pce.tok ⟨src, dst, .bare wAND⟩) = true from rfl] at hi
  simp only [pcV] at hi
  have HI1 := Lib.hid hi
  clear hi
  go_wp2_with fail
  refine HI1.out.mono ?_
  rintro e v1 ⟨rfl, hbv⟩
  have HT2 := Lib.hid (HT1.out.below hbv)
  clear hbv
  obtain ⟨p0, p1, p2, p3, pf, plt⟩ := HT2.out.psr.cells
  obtain ⟨r0, r1, r2, r3, r4, rf⟩ := HT2.out.res.cells
  obtain ⟨x0, x1, x2, x3, x4, x5, xf, xl⟩ := HT2.out.box.cells
  have HFL := Lib.hid (qfail_new s b a d 2 src v1 (by omega) HT2.out.psr)
  have HZF := Lib.hid (heap_lt HT2.out.res)
  go_wp2_with fail
  refine HFL.out.mono ?_
  rintro e w9 ⟨rfl, ho9, g, hg1, hg2, hg3, hg4⟩
  have HZ9 : QzAt w9 w.heap.size := (ho9.block _ HZF.out hne2).trans HT2.out.res
  have HO9 := Lib.hid (HT2.out.off.trans ho9)
  have HGG := Lib.hid (show ∃ g, w.heap.size < g ∧ g ≠ b ∧ Psr w9 b s s.length d (.pointer (some ⟨g, 0, none⟩)) ∧ Flt w9 g 2 src from ⟨g, Nat.lt_of_lt_of_le HZF.out hg1, hg2, hg3, hg4⟩)
  clear ho9 hg1 hg2 hg3 hg4
  clear r0 r1 r2 r3 r4 rf p0 p1 p2 p3 pf plt x0 x1 x2 x3 x4 x5 xf xl
  obtain ⟨r0, r1, r2, r3, r4, rf⟩ := HZ9.cells
  clear HZ9
  rw [noRaw_val]
  go_wp2
  refine bodyPost_ret (v := .agg #[.int .i64 0, .int .i64 0, .string ⟨#[]⟩, .int .i64 0, .slice none 0 0]) (by simp [results, Tryz.results50, go_sem, r0, r1, r2, r3, r4]) rfl ?_
  refine term_end (r := noRaw) (q := noQ) (B := w.heap.size + 1) hbw HO9.out (Nat.lt_succ_self _) (QDeep.leaf _ _ 0 0 [] 0) noRaw_ok ?_ (fun e a he => ?_) (put5_off w9 w.heap.size _ _ _ _ _)
  · obtain ⟨g, h1, h2⟩ := HGG.out
    exact ⟨g, Nat.le_of_lt h1, h2⟩
  · injection he with e1 e2
    subst e1
    subst e2
    exact HGG.out
set_option maxRecDepth 100000 in
set_option maxHeartbeats 4000000 in
theorem qterm_or (s : List UInt8) (b d B0 a src dst : Nat) (w : World) (hs : s.length ≤ 1000) (ha : a ≤ s.length) (hd : d ≤ 8) (hx : peekQ s a = ⟨src, dst, (.bare wOR)⟩) (hp : Psr w b s a d (.pointer none)) (ht : QTB w B0) (hB : B0 ≤ b) :
    Calls Tryz.prog 50 #[.pointer (some ⟨b, 0, none⟩)] w (PEnd w b s d (.err 2 src)) := by
  have hbw := heap_lt hp
  have hin := peek_in s a ha
  rw [hx] at hin
  dsimp only at hin
  have hpx := hp.below ((Below.refl w.heap.size w).alloc (Nat.le_refl _) qObj) hbw
  obtain ⟨p0, p1, p2, p3, pf, plt⟩ := hpx.cells
  have htx : QTB (w.alloc qObj) B0 := ht.below ((Below.refl B0 w).alloc (by omega) _)
  have hpk := qpeek_any s a b (w.alloc qObj) (by omega) ha (htx.tabs (by omega)) p0 p1
  rw [hx] at hpk
  have HPK := Lib.hid hpk
  have HP := Lib.hid hp
  have HTB := Lib.hid ht
  clear hp ht hpx htx hpk hx p0 p1 p2 p3 pf plt
  go_enter Tryz.func50, Tryz.ntmps50
  go_wp2_with fail
  refine HPK.out.mono ?_
  rintro e w1 ⟨rfl, hb1⟩
  simp only [pcV]
  have HT1 := Lib.hid (ts_new (k := 5) (i := (src : Nat)) (j := (dst : Nat)) (t := (ba wOR)) (f := 0) (z := false) HP.out hb1)
  have hne : ¬ b = w.heap.size := by omega
  have hne2 : ¬ w.heap.size = b := by omega
  have z1 : w.heap.size < w1.heap.size := Nat.lt_of_lt_of_le (by simp) hb1.size
  have hb1x : b < w1.heap.size := by omega
  clear hb1
  have hi := qis_any ⟨src, dst, .bare wOR⟩ wAND (w1.alloc (.cells #[.int .i64 5, .int .i64 (src : Nat), .int .i64 (dst : Nat), .string (ba wOR), .int .i64 0, .bool false] 41))
  rw [show isBare wAND (Pce.tok ⟨src, dst, .bare wOR⟩) = false from rfl] at hi
  simp only [pcV] at hi
  have HI1 := Lib.hid hi
  clear hi
  go_wp2_with fail
  refine HI1.out.mono ?_
  rintro e v1 ⟨rfl, hbv⟩
  have HT2 := Lib.hid (HT1.out.below hbv)
  clear hbv
  obtain ⟨p0, p1, p2, p3, pf, plt⟩ := HT2.out.psr.cells
  obtain ⟨r0, r1, r2, r3, r4, rf⟩ := HT2.out.res.cells
  obtain ⟨x0, x1, x2, x3, x4, x5, xf, xl⟩ := HT2.out.box.cells
  have hi := qis_any ⟨src, dst, .bare wOR⟩ wOR v1
  rw [show isBare wOR (Pce.tok ⟨src, dst, .bare wOR⟩) = true from rfl] at hi
  simp only [pcV] at hi
  have HI2 := Lib.hid hi
  clear hi
  go_wp2_with fail
  refine HI2.out.mono ?_
  rintro e v2 ⟨rfl, hbv⟩
  have HT3 := Lib.hid (HT2.out.below hbv)
  clear hbv
  clear r0 r1 r2 r3 r4 rf p0 p1 p2 p3 pf plt x0 x1 x2 x3 x4 x5 xf xl
  obtain ⟨p0, p1, p2, p3, pf, plt⟩ := HT3.out.psr.cells
  obtain ⟨r0, r1, r2, r3, r4, rf⟩ := HT3.out.res.cells
  obtain ⟨x0, x1, x2, x3, x4, x5, xf, xl⟩ := HT3.out.box.cells
  have HFL := Lib.hid (qfail_new s b a d 2 src v2 (by omega) HT3.out.psr)
  have HZF := Lib.hid (heap_lt HT3.out.res)
  go_wp2_with fail
  refine HFL.out.mono ?_
  rintro e w9 ⟨rfl, ho9, g, hg1, hg2, hg3, hg4⟩
  have HZ9 : QzAt w9 w.heap.size := (ho9.block _ HZF.out hne2).trans HT3.out.res
  have HO9 := Lib.hid (HT3.out.off.trans ho9)
  have HGG := Lib.hid (show ∃ g, w.heap.size < g ∧ g ≠ b ∧ Psr w9 b s s.length d (.pointer (some ⟨g, 0, none⟩)) ∧ Flt w9 g 2 src from ⟨g, Nat.lt_of_lt_of_le HZF.out hg1, hg2, hg3, hg4⟩)
  clear ho9 hg1 hg2 hg3 hg4
  clear r0 r1 r2 r3 r4 rf p0 p1 p2 p3 pf plt x0 x1 x2 x3 x4 x5 xf xl
  obtain ⟨r0, r1, r2, r3, r4, rf⟩ := HZ9.cells
  clear HZ9
  rw [noRaw_val]
  go_wp2
  refine bodyPost_ret (v := .agg #[.int .i64 0, .int .i64 0, .string ⟨#[]⟩, .int .i64 0, .slice none 0 0]) (by simp [results, Tryz.results50, go_sem, r0, r1, r2, r3, r4]) rfl ?_
  refine term_end (r := noRaw) (q := noQ) (B := w.heap.size + 1) hbw HO9.out (Nat.lt_succ_self _) (QDeep.leaf _ _ 0 0 [] 0) noRaw_ok ?_ (fun e a he => ?_) (put5_off w9 w.heap.size _ _ _ _ _)
  · obtain ⟨g, h1, h2⟩ := HGG.out
    exact ⟨g, Nat.le_of_lt h1, h2⟩
  · injection he with e1 e2
    subst e1
    subst e2
    exact HGG.out
set_option maxRecDepth 100000 in
set_option maxHeartbeats 4000000 in
theorem qterm_dash (s : List UInt8) (b d B0 a src dst : Nat) (R : QRes) (hF : d < 8 → ∀ W : World, Psr W b s dst (d + 1) (.pointer none) → QTB W B0 → Calls Tryz.prog 73 #[.pointer (some ⟨b, 0, none⟩)] W (PEnd W b s (d + 1) R)) (w : World) (hs : s.length ≤ 1000) (ha : a ≤ s.length) (hd : d ≤ 8) (hx : peekQ s a = ⟨src, dst, .dash⟩) (hp : Psr w b s a d (.pointer none)) (ht : QTB w B0) (hB : B0 ≤ b) :
    Calls Tryz.prog 50 #[.pointer (some ⟨b, 0, none⟩)] w (PEnd w b s d (if 8 ≤ d then .err 10 src else R)) := by
  have hbw := heap_lt hp
  have hin := peek_in s a ha
  rw [hx] at hin
  dsimp only at hin
  have hpx := hp.below ((Below.refl w.heap.size w).alloc (Nat.le_refl _) qObj) hbw
  obtain ⟨p0, p1, p2, p3, pf, plt⟩ := hpx.cells
  have htx : QTB (w.alloc qObj) B0 := ht.below ((Below.refl B0 w).alloc (by omega) _)
  have hpk := qpeek_any s a b (w.alloc qObj) (by omega) ha (htx.tabs (by omega)) p0 p1
  rw [hx] at hpk
  have HPK := Lib.hid hpk
  have HP := Lib.hid hp
  have HTB := Lib.hid ht
  have HFF := Lib.hid hF
  clear hF
  obtain ⟨RS, hRS⟩ : ∃ RS : QRes, (if 8 ≤ d then QRes.err 10 src else R) = RS := ⟨_, rfl⟩
  rw [hRS]
  have HRS := Lib.hid hRS
  clear hRS
  clear hp ht hpx htx hpk hx p0 p1 p2 p3 pf plt
  go_enter Tryz.func50, Tryz.ntmps50
  go_wp2_with fail
  refine HPK.out.mono ?_
  rintro e w1 ⟨rfl, hb1⟩
  simp only [pcV]
  have HT1 := Lib.hid (ts_new (k := 3) (i := (src : Nat)) (j := (dst : Nat)) (t := ⟨#[]⟩) (f := 0) (z := false) HP.out hb1)
  have hne : ¬ b = w.heap.size := by omega
  have hne2 : ¬ w.heap.size = b := by omega
  have z1 : w.heap.size < w1.heap.size := Nat.lt_of_lt_of_le (by simp) hb1.size
  have hb1x : b < w1.heap.size := by omega
  clear hb1
  have hi := qis_any ⟨src, dst, .dash⟩ wAND (w1.alloc (.cells #[.int .i64 3, .int .i64 (src : Nat), .int .i64 (dst : Nat), .string ⟨#[]⟩, .int .i64 0, .bool false] 41))
  rw [show isBare wAND (Pce.tok ⟨src, dst, .dash⟩) = false from rfl] at hi
  simp only [pcV] at hi
  have HI1 := Lib.hid hi
  clear hi
  go_wp2_with fail
  refine HI1.out.mono ?_
  rintro e v1 ⟨rfl, hbv⟩
  have HT2 := Lib.hid (HT1.out.below hbv)
  clear hbv
  obtain ⟨p0, p1, p2, p3, pf, plt⟩ := HT2.out.psr.cells
  obtain ⟨r0, r1, r2, r3, r4, rf⟩ := HT2.out.res.cells
  obtain ⟨x0, x1, x2, x3, x4, x5, xf, xl⟩ := HT2.out.box.cells
  have hi := qis_any ⟨src, dst, .dash⟩ wOR v1
  rw [show isBare wOR (Pce.tok ⟨src, dst, .dash⟩) = false from rfl] at hi
  simp only [pcV] at hi
  have HI2 := Lib.hid hi
  clear hi
  go_wp2_with fail
  refine HI2.out.mono ?_
  rintro e v2 ⟨rfl, hbv⟩
  have HT3 := Lib.hid (HT2.out.below hbv)
  clear hbv
  clear r0 r1 r2 r3 r4 rf p0 p1 p2 p3 pf plt x0 x1 x2 x3 x4 x5 xf xl
  obtain ⟨p0, p1, p2, p3, pf, plt⟩ := HT3.out.psr.cells
  obtain ⟨r0, r1, r2, r3, r4, rf⟩ := HT3.out.res.cells
  obtain ⟨x0, x1, x2, x3, x4, x5, xf, xl⟩ := HT3.out.box.cells
  have hde := qdeeper_not s b d B0 dst src 3 (dst : Nat) 0 ⟨#[]⟩ false R (v2.setCell ⟨b, 1, none⟩ (.int .i64 ((dst : Nat) : Int))) (by omega) hd HFF.out (HT3.out.psr.at_ dst) ((HTB.out.off hB hbw HT3.out.off).off hB HT3.out.psr.cells.2.2.2.2.2 ((Off.refl (fun k => k = b) v2).setCell (p := ⟨b, 1, none⟩) (.inl rfl) _)) hB
  rw [HRS.out] at hde
  have HDE := Lib.hid hde
  clear hde
  have HZ8 := Lib.hid (show QzAt (v2.setCell ⟨b, 1, none⟩ (.int .i64 ((dst : Nat) : Int))) w.heap.size from (heap_setCell_other v2 ⟨b, 1, none⟩ w.heap.size _ hne2).trans HT3.out.res)
  have HZF := Lib.hid (heap_lt HZ8.out)
  have HO8 := Lib.hid (show Off (fun k => k = b) w (v2.setCell ⟨b, 1, none⟩ (.int .i64 ((dst : Nat) : Int))) from HT3.out.off.setCell (p := ⟨b, 1, none⟩) (.inl rfl) _)
  go_wp2_with fail
  refine HDE.out.mono ?_
  rintro e w9 ⟨⟨o, fl, y, n, A, m, c⟩, q, rfl, hq, hk, ho9, hst⟩
  have HZ9 : QzAt w9 w.heap.size := (ho9.block _ HZF.out hne2).trans HZ8.out
  have HO9 := Lib.hid (HO8.out.trans ho9)
  have HQ := Lib.hid hq
  have HK := Lib.hid hk
  have HS := Lib.hid (hst.base (Nat.le_of_lt HZF.out))
  have HG := Lib.hid (hst.gap HZF.out)
  clear ho9 hq hk hst
  clear r0 r1 r2 r3 r4 rf p0 p1 p2 p3 pf plt x0 x1 x2 x3 x4 x5 xf xl
  obtain ⟨r0, r1, r2, r3, r4, rf⟩ := HZ9.cells
  clear HZ9
  unfold RawQ.val
  dsimp only
  go_wp2
  refine bodyPost_ret (v := .agg #[.int .i64 o, .int .i64 fl, .string (ba y), .int .i64 n, .slice A m c]) (by simp [results, Tryz.results50, go_sem, r0, r1, r2, r3, r4]) rfl ?_
  exact term_end (r := ⟨o, fl, y, n, (A, m, c)⟩) hbw HO9.out HZF.out HQ.out HK.out HS.out HG.out (put5_off w9 w.heap.size _ _ _ _ _)
set_option maxRecDepth 100000 in
set_option maxHeartbeats 4000000 in
theorem qterm_opn (s : List UInt8) (b d B0 a src dst : Nat) (R : QRes) (hF : d < 8 → ∀ W : World, Psr W b s dst (d + 1) (.pointer none) → QTB W B0 → Calls Tryz.prog 74 #[.pointer (some ⟨b, 0, none⟩)] W (PEnd W b s (d + 1) R)) (w : World) (hs : s.length ≤ 1000) (ha : a ≤ s.length) (hd : d ≤ 8) (hx : peekQ s a = ⟨src, dst, .opn⟩) (hp : Psr w b s a d (.pointer none)) (ht : QTB w B0) (hB : B0 ≤ b) :
    Calls Tryz.prog 50 #[.pointer (some ⟨b, 0, none⟩)] w (PEnd w b s d (if 8 ≤ d then .err 10 src else R)) := by
  have hbw := heap_lt hp
  have hin := peek_in s a ha
  rw [hx] at hin
  dsimp only at hin
  have hpx := hp.below ((Below.refl w.heap.size w).alloc (Nat.le_refl _) qObj) hbw
  obtain ⟨p0, p1, p2, p3, pf, plt⟩ := hpx.cells
  have htx : QTB (w.alloc qObj) B0 := ht.below ((Below.refl B0 w).alloc (by omega) _)
  have hpk := qpeek_any s a b (w.alloc qObj) (by omega) ha (htx.tabs (by omega)) p0 p1
  rw [hx] at hpk
  have HPK := Lib.hid hpk
  have HP := Lib.hid hp
  have HTB := Lib.hid ht
  have HFF := Lib.hid hF
  clear hF
  obtain ⟨RS, hRS⟩ : ∃ RS : QRes, (if 8 ≤ d then QRes.err 10 src else R) = RS := ⟨_, rfl⟩
  rw [hRS]
  have HRS := Lib.hid hRS
  clear hRS
  clear hp ht hpx htx hpk hx p0 p1 p2 p3 pf plt
  go_enter Tryz.func50, Tryz.ntmps50
  go_wp2_with fail
  refine HPK.out.mono ?_
  rintro e w1 ⟨rfl, hb1⟩
  simp only [pcV]
  have HT1 := Lib.hid (ts_new (k := 1) (i := (src : Nat)) (j := (dst : Nat)) (t := ⟨#[]⟩) (f := 0) (z := false) HP.out hb1)
  have hne : ¬ b = w.heap.size := by omega
  have hne2 : ¬ w.heap.size = b := by omega
  have z1 : w.heap.size < w1.heap.size := Nat.lt_of_lt_of_le (by simp) hb1.size
  have hb1x : b < w1.heap.size := by omega
  clear hb1
  have hi := qis_any ⟨src, dst, .opn⟩ wAND (w1.alloc (.cells #[.int .i64 1, .int .i64 (src : Nat), .int .i64 (dst : Nat), .string ⟨#[]⟩, .int .i64 0, .bool false] 41))
  rw [show isBare wAND (Pce.tok ⟨src, dst, .opn⟩) = false from rfl] at hi
  simp only [pcV] at hi
  have HI1 := Lib.hid hi
  clear hi
  go_wp2_with fail
  refine HI1.out.mono ?_
  rintro e v1 ⟨rfl, hbv⟩
  have HT2 := Lib.hid (HT1.out.below hbv)
  clear hbv
  obtain ⟨p0, p1, p2, p3, pf, plt⟩ := HT2.out.psr.cells
  obtain ⟨r0, r1, r2, r3, r4, rf⟩ := HT2.out.res.cells
  obtain ⟨x0, x1, x2, x3, x4, x5, xf, xl⟩ := HT2.out.box.cells
  have hi := qis_any ⟨src, dst, .opn⟩ wOR v1
  rw [show isBare wOR (Pce.tok ⟨src, dst, .opn⟩) = false from rfl] at hi
  simp only [pcV] at hi
  have HI2 := Lib.hid hi
  clear hi
  go_wp2_with fail
  refine HI2.out.mono ?_
  rintro e v2 ⟨rfl, hbv⟩
  have HT3 := Lib.hid (HT2.out.below hbv)
  clear hbv
  clear r0 r1 r2 r3 r4 rf p0 p1 p2 p3 pf plt x0 x1 x2 x3 x4 x5 xf xl
  obtain ⟨p0, p1, p2, p3, pf, plt⟩ := HT3.out.psr.cells
  obtain ⟨r0, r1, r2, r3, r4, rf⟩ := HT3.out.res.cells
  obtain ⟨x0, x1, x2, x3, x4, x5, xf, xl⟩ := HT3.out.box.cells
  have HT4 := Lib.hid (HT3.out.at_ dst)
  have hi := qis_any ⟨src, dst, .opn⟩ wNOT (v2.setCell ⟨b, 1, none⟩ (.int .i64 ((dst : Nat) : Int)))
  rw [show isBare wNOT (Pce.tok ⟨src, dst, .opn⟩) = false from rfl] at hi
  simp only [pcV] at hi
  have HI3 := Lib.hid hi
  clear hi
  go_wp2_with fail
  refine HI3.out.mono ?_
  rintro e v3 ⟨rfl, hbv⟩
  have HT5 := Lib.hid (HT4.out.below hbv)
  clear hbv
  clear r0 r1 r2 r3 r4 rf p0 p1 p2 p3 pf plt x0 x1 x2 x3 x4 x5 xf xl
  obtain ⟨p0, p1, p2, p3, pf, plt⟩ := HT5.out.psr.cells
  obtain ⟨r0, r1, r2, r3, r4, rf⟩ := HT5.out.res.cells
  obtain ⟨x0, x1, x2, x3, x4, x5, xf, xl⟩ := HT5.out.box.cells
  have hde := qdeeper_bracket s b d B0 dst src 1 (dst : Nat) 0 ⟨#[]⟩ false R v3 (by omega) hd HFF.out HT5.out.psr (HTB.out.off hB hbw HT5.out.off) hB
  rw [HRS.out] at hde
  have HDE := Lib.hid hde
  clear hde
  have HZ8 := Lib.hid (show QzAt v3 w.heap.size from HT5.out.res)
  have HZF := Lib.hid (heap_lt HZ8.out)
  have HO8 := Lib.hid (show Off (fun k => k = b) w v3 from HT5.out.off)
  go_wp2_with fail
  refine HDE.out.mono ?_
  rintro e w9 ⟨⟨o, fl, y, n, A, m, c⟩, q, rfl, hq, hk, ho9, hst⟩
  have HZ9 : QzAt w9 w.heap.size := (ho9.block _ HZF.out hne2).trans HZ8.out
  have HO9 := Lib.hid (HO8.out.trans ho9)
  have HQ := Lib.hid hq
  have HK := Lib.hid hk
  have HS := Lib.hid (hst.base (Nat.le_of_lt HZF.out))
  have HG := Lib.hid (hst.gap HZF.out)
  clear ho9 hq hk hst
  clear r0 r1 r2 r3 r4 rf p0 p1 p2 p3 pf plt x0 x1 x2 x3 x4 x5 xf xl
  obtain ⟨r0, r1, r2, r3, r4, rf⟩ := HZ9.cells
  clear HZ9
  unfold RawQ.val
  dsimp only
  go_wp2
  refine bodyPost_ret (v := .agg #[.int .i64 o, .int .i64 fl, .string (ba y), .int .i64 n, .slice A m c]) (by simp [results, Tryz.results50, go_sem, r0, r1, r2, r3, r4]) rfl ?_
  exact term_end (r := ⟨o, fl, y, n, (A, m, c)⟩) hbw HO9.out HZF.out HQ.out HK.out HS.out HG.out (put5_off w9 w.heap.size _ _ _ _ _)
set_option maxRecDepth 100000 in
set_option maxHeartbeats 4000000 in
theorem qterm_not (s : List UInt8) (b d B0 a src dst : Nat) (R : QRes) (hF : d < 8 → ∀ W : World, Psr W b s dst (d + 1) (.pointer none) → QTB W B0 → Calls Tryz.prog 73 #[.pointer (some ⟨b, 0, none⟩)] W (PEnd W b s (d + 1) R)) (w : World) (hs : s.length ≤ 1000) (ha : a ≤ s.length) (hd : d ≤ 8) (hx : peekQ s a = ⟨src, dst, (.bare wNOT)⟩) (hp : Psr w b s a d (.pointer none)) (ht : QTB w B0) (hB : B0 ≤ b) :
    Calls Tryz.prog 50 #[.pointer (some ⟨b, 0, none⟩)] w (PEnd w b s d (if 8 ≤ d then .err 10 src else R)) := by
  have hbw := heap_lt hp
  have hin := peek_in s a ha
  rw [hx] at hin
  dsimp only at hin
  have hpx := hp.below ((Below.refl w.heap.size w).alloc (Nat.le_refl _) qObj) hbw
  obtain ⟨p0, p1, p2, p3, pf, plt⟩ := hpx.cells
  have htx : QTB (w.alloc qObj) B0 := ht.below ((Below.refl B0 w).alloc (by omega) _)
  have hpk := qpeek_any s a b (w.alloc qObj) (by omega) ha (htx.tabs (by omega)) p0 p1
  rw [hx] at hpk
  have HPK := Lib.hid hpk
  have HP := Lib.hid hp
  have HTB := Lib.hid ht
  have HFF := Lib.hid hF
  clear hF
  obtain ⟨RS, hRS⟩ : ∃ RS : QRes, (if 8 ≤ d then QRes.err 10 src else R) = RS := ⟨_, rfl⟩
  rw [hRS]
  have HRS := Lib.hid hRS
  clear hRS
  clear hp ht hpx htx hpk hx p0 p1 p2 p3 pf plt
  go_enter Tryz.func50, Tryz.ntmps50
  go_wp2_with fail
  refine HPK.out.mono ?_
  rintro e w1 ⟨rfl, hb1⟩
  simp only [pcV]
  have HT1 := Lib.hid (ts_new (k := 5) (i := (src : Nat)) (j := (dst : Nat)) (t := (ba wNOT)) (f := 0) (z := false) HP.out hb1)
  have hne : ¬ b = w.heap.size := by omega
  have hne2 : ¬ w.heap.size = b := by omega
  have z1 : w.heap.size < w1.heap.size := Nat.lt_of_lt_of_le (by simp) hb1.size
  have hb1x : b < w1.heap.size := by omega
  clear hb1
  have hi := qis_any ⟨src, dst, .bare wNOT⟩ wAND (w1.alloc (.cells #[.int .i64 5, .int .i64 (src : Nat), .int .i64 (dst : Nat), .string (ba wNOT), .int .i64 0, .bool false] 41))
  rw [show isBare wAND (Pce.tok ⟨src, dst, .bare wNOT⟩) = false from rfl] at hi
  simp only [pcV] at hi
  have HI1 := Lib.hid hi
  clear hi
  go_wp2_with fail
  refine HI1.out.mono ?_
  rintro e v1 ⟨rfl, hbv⟩
  have HT2 := Lib.hid (HT1.out.below hbv)
  clear hbv
  obtain ⟨p0, p1, p2, p3, pf, plt⟩ := HT2.out.psr.cells
  obtain ⟨r0, r1, r2, r3, r4, rf⟩ := HT2.out.res.cells
  obtain ⟨x0, x1, x2, x3, x4, x5, xf, xl⟩ := HT2.out.box.cells
  have hi := qis_any ⟨src, dst, .bare wNOT⟩ wOR v1
  rw [show isBare wOR (Pce.tok ⟨src, dst, .bare wNOT⟩) = false from rfl] at hi
  simp only [pcV] at hi
  have HI2 := Lib.hid hi
  clear hi
  go_wp2_with fail
  refine HI2.out.mono ?_
  rintro e v2 ⟨rfl, hbv⟩
  have HT3 := Lib.hid (HT2.out.below hbv)
  clear hbv
  clear r0 r1 r2 r3 r4 rf p0 p1 p2 p3 pf plt x0 x1 x2 x3 x4 x5 xf xl
  obtain ⟨p0, p1, p2, p3, pf, plt⟩ := HT3.out.psr.cells
  obtain ⟨r0, r1, r2, r3, r4, rf⟩ := HT3.out.res.cells
  obtain ⟨x0, x1, x2, x3, x4, x5, xf, xl⟩ := HT3.out.box.cells
  have HT4 := Lib.hid (HT3.out.at_ dst)
  have hi := qis_any ⟨src, dst, .bare wNOT⟩ wNOT (v2.setCell ⟨b, 1, none⟩ (.int .i64 ((dst : Nat) : Int)))
  rw [show isBare wNOT (Pce.tok ⟨src, dst, .bare wNOT⟩) = true from rfl] at hi
  simp only [pcV] at hi
  have HI3 := Lib.hid hi
  clear hi
  go_wp2_with fail
  refine HI3.out.mono ?_
  rintro e v3 ⟨rfl, hbv⟩
  have HT5 := Lib.hid (HT4.out.below hbv)
  clear hbv
  clear r0 r1 r2 r3 r4 rf p0 p1 p2 p3 pf plt x0 x1 x2 x3 x4 x5 xf xl
  obtain ⟨p0, p1, p2, p3, pf, plt⟩ := HT5.out.psr.cells
  obtain ⟨r0, r1, r2, r3, r4, rf⟩ := HT5.out.res.cells
  obtain ⟨x0, x1, x2, x3, x4, x5, xf, xl⟩ := HT5.out.box.cells
  have hde := qdeeper_not s b d B0 dst src 5 (dst : Nat) 0 (ba wNOT) false R v3 (by omega) hd HFF.out HT5.out.psr (HTB.out.off hB hbw HT5.out.off) hB
  rw [HRS.out] at hde
  have HDE := Lib.hid hde
  clear hde
  have HZ8 := Lib.hid (show QzAt v3 w.heap.size from HT5.out.res)
  have HZF := Lib.hid (heap_lt HZ8.out)
  have HO8 := Lib.hid (show Off (fun k => k = b) w v3 from HT5.out.off)
  go_wp2_with fail
  refine HDE.out.mono ?_
  rintro e w9 ⟨⟨o, fl, y, n, A, m, c⟩, q, rfl, hq, hk, ho9, hst⟩
  have HZ9 : QzAt w9 w.heap.size := (ho9.block _ HZF.out hne2).trans HZ8.out
  have HO9 := Lib.hid (HO8.out.trans ho9)
  have HQ := Lib.hid hq
  have HK := Lib.hid hk
  have HS := Lib.hid (hst.base (Nat.le_of_lt HZF.out))
  have HG := Lib.hid (hst.gap HZF.out)
  clear ho9 hq hk hst
  clear r0 r1 r2 r3 r4 rf p0 p1 p2 p3 pf plt x0 x1 x2 x3 x4 x5 xf xl
  obtain ⟨r0, r1, r2, r3, r4, rf⟩ := HZ9.cells
  clear HZ9
  unfold RawQ.val
  dsimp only
  go_wp2
  refine bodyPost_ret (v := .agg #[.int .i64 o, .int .i64 fl, .string (ba y), .int .i64 n, .slice A m c]) (by simp [results, Tryz.results50, go_sem, r0, r1, r2, r3, r4]) rfl ?_
  exact term_end (r := ⟨o, fl, y, n, (A, m, c)⟩) hbw HO9.out HZF.out HQ.out HK.out HS.out HG.out (put5_off w9 w.heap.size _ _ _ _ _)
set_option maxRecDepth 100000 in
set_option maxHeartbeats 4000000 in
theorem qterm_quo (s : List UInt8) (b d B0 a src dst : Nat) (t raw : List UInt8) (f : Nat) (hl : t.length ≤ 1000000) (hf : f ≤ 100) (w : World) (hs : s.length ≤ 1000) (ha : a ≤ s.length) (hd : d ≤ 8) (hx : peekQ s a = ⟨src, dst, (.quo t f raw)⟩) (hp : Psr w b s a d (.pointer none)) (ht : QTB w B0) (hB : B0 ≤ b) :
    Calls Tryz.prog 50 #[.pointer (some ⟨b, 0, none⟩)] w (PEnd w b s d (leafQ (textQ t f) ⟨src, dst, .quo t f raw⟩)) := by
  have hbw := heap_lt hp
  have hin := peek_in s a ha
  rw [hx] at hin
  dsimp only at hin
  have hpx := hp.below ((Below.refl w.heap.size w).alloc (Nat.le_refl _) qObj) hbw
  obtain ⟨p0, p1, p2, p3, pf, plt⟩ := hpx.cells
  have htx : QTB (w.alloc qObj) B0 := ht.below ((Below.refl B0 w).alloc (by omega) _)
  have hpk := qpeek_any s a b (w.alloc qObj) (by omega) ha (htx.tabs (by omega)) p0 p1
  rw [hx] at hpk
  have HPK := Lib.hid hpk
  have HP := Lib.hid hp
  have HTB := Lib.hid ht
  obtain ⟨O, hO⟩ : ∃ O, textQ t f = O := ⟨_, rfl⟩
  rw [hO]
  have HOO := Lib.hid hO
  clear hO
  obtain ⟨RS, hRS⟩ : ∃ RS : QRes, leafQ O ⟨src, dst, .quo t f raw⟩ = RS := ⟨_, rfl⟩
  rw [hRS]
  have HRS := Lib.hid hRS
  clear hRS
  clear hp ht hpx htx hpk hx p0 p1 p2 p3 pf plt
  go_enter Tryz.func50, Tryz.ntmps50
  go_wp2_with fail
  refine HPK.out.mono ?_
  rintro e w1 ⟨rfl, hb1⟩
  simp only [pcV]
  have HT1 := Lib.hid (ts_new (k := 4) (i := (src : Nat)) (j := (dst : Nat)) (t := (ba t)) (f := (f : Nat)) (z := false) HP.out hb1)
  have hne : ¬ b = w.heap.size := by omega
  have hne2 : ¬ w.heap.size = b := by omega
  have z1 : w.heap.size < w1.heap.size := Nat.lt_of_lt_of_le (by simp) hb1.size
  have hb1x : b < w1.heap.size := by omega
  clear hb1
  have hi := qis_any ⟨src, dst, .quo t f raw⟩ wAND (w1.alloc (.cells #[.int .i64 4, .int .i64 (src : Nat), .int .i64 (dst : Nat), .string (ba t), .int .i64 (f : Nat), .bool false] 41))
  rw [show isBare wAND (Pce.tok ⟨src, dst, .quo t f raw⟩) = false from rfl] at hi
  simp only [pcV] at hi
  have HI1 := Lib.hid hi
  clear hi
  go_wp2_with fail
  refine HI1.out.mono ?_
  rintro e v1 ⟨rfl, hbv⟩
  have HT2 := Lib.hid (HT1.out.below hbv)
  clear hbv
  obtain ⟨p0, p1, p2, p3, pf, plt⟩ := HT2.out.psr.cells
  obtain ⟨r0, r1, r2, r3, r4, rf⟩ := HT2.out.res.cells
  obtain ⟨x0, x1, x2, x3, x4, x5, xf, xl⟩ := HT2.out.box.cells
  have hi := qis_any ⟨src, dst, .quo t f raw⟩ wOR v1
  rw [show isBare wOR (Pce.tok ⟨src, dst, .quo t f raw⟩) = false from rfl] at hi
  simp only [pcV] at hi
  have HI2 := Lib.hid hi
  clear hi
  go_wp2_with fail
  refine HI2.out.mono ?_
  rintro e v2 ⟨rfl, hbv⟩
  have HT3 := Lib.hid (HT2.out.below hbv)
  clear hbv
  clear r0 r1 r2 r3 r4 rf p0 p1 p2 p3 pf plt x0 x1 x2 x3 x4 x5 xf xl
  obtain ⟨p0, p1, p2, p3, pf, plt⟩ := HT3.out.psr.cells
  obtain ⟨r0, r1, r2, r3, r4, rf⟩ := HT3.out.res.cells
  obtain ⟨x0, x1, x2, x3, x4, x5, xf, xl⟩ := HT3.out.box.cells
  have HT4 := Lib.hid (HT3.out.at_ dst)
  have hi := qis_any ⟨src, dst, .quo t f raw⟩ wNOT (v2.setCell ⟨b, 1, none⟩ (.int .i64 ((dst : Nat) : Int)))
  rw [show isBare wNOT (Pce.tok ⟨src, dst, .quo t f raw⟩) = false from rfl] at hi
  simp only [pcV] at hi
  have HI3 := Lib.hid hi
  clear hi
  go_wp2_with fail
  refine HI3.out.mono ?_
  rintro e v3 ⟨rfl, hbv⟩
  have HT5 := Lib.hid (HT4.out.below hbv)
  clear hbv
  clear r0 r1 r2 r3 r4 rf p0 p1 p2 p3 pf plt x0 x1 x2 x3 x4 x5 xf xl
  obtain ⟨p0, p1, p2, p3, pf, plt⟩ := HT5.out.psr.cells
  obtain ⟨r0, r1, r2, r3, r4, rf⟩ := HT5.out.res.cells
  obtain ⟨x0, x1, x2, x3, x4, x5, xf, xl⟩ := HT5.out.box.cells
  have hlf := qmeans_quo src dst t f v3 hl hf ((HTB.out.off hB hbw HT5.out.off).tabs (by have := heap_lt HT5.out.psr; omega))
  rw [HOO.out] at hlf
  have HLF := Lib.hid hlf
  clear hlf
  go_wp2_with fail
  refine HLF.out.mono ?_
  rintro e v4 ⟨op, fld, y, m, rfl, hb4, hq, hk⟩
  have HQ := Lib.hid hq
  have HK := Lib.hid hk
  have HT6 := Lib.hid (HT5.out.below hb4)
  clear hb4 hq hk
  clear r0 r1 r2 r3 r4 rf p0 p1 p2 p3 pf plt x0 x1 x2 x3 x4 x5 xf xl
  obtain ⟨p0, p1, p2, p3, pf, plt⟩ := HT6.out.psr.cells
  obtain ⟨r0, r1, r2, r3, r4, rf⟩ := HT6.out.res.cells
  obtain ⟨x0, x1, x2, x3, x4, x5, xf, xl⟩ := HT6.out.box.cells
  cases O with
  | some q =>
    simp only [Option.isSome_some]
    have HRR := Lib.hid (show RS = .ok q dst from HRS.out.symm)
    have HSZ := Lib.hid (heap_lt HT6.out.res)
    have z4 := HSZ.out
    go_wp2
    refine bodyPost_ret (v := .agg #[.int .i64 op, .int .i64 fld, .string (ba y), .int .i64 m, .slice none 0 0]) (by simp [results, Tryz.results50, go_sem, z4, r0, r1, r2, r3, r4]) rfl ?_
    rw [HRR.out, HQ.out q rfl]
    refine term_end (r := ⟨op, fld, y, m, (none, 0, 0)⟩) (B := w.heap.size + 1) hbw HT6.out.off (Nat.lt_succ_self _) (QDeep.leaf _ _ op fld y m) HK.out ⟨rfl, HT6.out.psr⟩ (fun e a he => by cases he) ((put5_off v4 w.heap.size _ _ _ _ _).alloc _)
  | none =>
    simp only [Option.isSome_none]
    have HRR := Lib.hid (show RS = .err 2 src from HRS.out.symm)
    have HT7 := Lib.hid (HT6.out.below ((Below.refl v4.heap.size v4).alloc (Nat.le_refl _) (.cells #[.int .i64 op, .int .i64 fld, .string (ba y), .int .i64 m, .slice none 0 0] 25)))
    have hrr := HRR.out
    subst hrr
    clear HRR HRS
    have HFL := Lib.hid (qfail_new s b dst d 2 src (v4.alloc (.cells #[.int .i64 op, .int .i64 fld, .string (ba y), .int .i64 m, .slice none 0 0] 25)) (by omega) HT7.out.psr)
    have HZF := Lib.hid (heap_lt HT7.out.res)
    go_wp2_with fail
    refine HFL.out.mono ?_
    rintro e w9 ⟨rfl, ho9, g, hg1, hg2, hg3, hg4⟩
    have HZ9 : QzAt w9 w.heap.size := (ho9.block _ HZF.out hne2).trans HT7.out.res
    have HO9 := Lib.hid (HT7.out.off.trans ho9)
    have HGG := Lib.hid (show ∃ g, w.heap.size < g ∧ g ≠ b ∧ Psr w9 b s s.length d (.pointer (some ⟨g, 0, none⟩)) ∧ Flt w9 g 2 src from ⟨g, Nat.lt_of_lt_of_le HZF.out hg1, hg2, hg3, hg4⟩)
    clear ho9 hg1 hg2 hg3 hg4
    clear r0 r1 r2 r3 r4 rf p0 p1 p2 p3 pf plt x0 x1 x2 x3 x4 x5 xf xl
    obtain ⟨r0, r1, r2, r3, r4, rf⟩ := HZ9.cells
    clear HZ9
    rw [noRaw_val]
    go_wp2
    refine bodyPost_ret (v := .agg #[.int .i64 0, .int .i64 0, .string ⟨#[]⟩, .int .i64 0, .slice none 0 0]) (by simp [results, Tryz.results50, go_sem, r0, r1, r2, r3, r4]) rfl ?_
    refine term_end (r := noRaw) (q := noQ) (B := w.heap.size + 1) hbw HO9.out (Nat.lt_succ_self _) (QDeep.leaf _ _ 0 0 [] 0) noRaw_ok ?_ (fun e a he => ?_) (put5_off w9 w.heap.size _ _ _ _ _)
    · obtain ⟨g, h1, h2⟩ := HGG.out
      exact ⟨g, Nat.le_of_lt h1, h2⟩
    · injection he with e1 e2
      subst e1
      subst e2
      exact HGG.out
set_option maxRecDepth 100000 in
set_option maxHeartbeats 4000000 in
theorem qterm_bare (s : List UInt8) (b d B0 a src dst : Nat) (t : List UInt8) (hl : t.length ≤ 1000000) (h1 : ¬ t = wAND) (h2 : ¬ t = wOR) (h3 : ¬ t = wNOT) (w : World) (hs : s.length ≤ 1000) (ha : a ≤ s.length) (hd : d ≤ 8) (hx : peekQ s a = ⟨src, dst, (.bare t)⟩) (hp : Psr w b s a d (.pointer none)) (ht : QTB w B0) (hB : B0 ≤ b) :
    Calls Tryz.prog 50 #[.pointer (some ⟨b, 0, none⟩)] w (PEnd w b s d (leafQ (meansQ t) ⟨src, dst, .bare t⟩)) := by
  have hbw := heap_lt hp
  have hin := peek_in s a ha
  rw [hx] at hin
  dsimp only at hin
  have hpx := hp.below ((Below.refl w.heap.size w).alloc (Nat.le_refl _) qObj) hbw
  obtain ⟨p0, p1, p2, p3, pf, plt⟩ := hpx.cells
  have htx : QTB (w.alloc qObj) B0 := ht.below ((Below.refl B0 w).alloc (by omega) _)
  have hpk := qpeek_any s a b (w.alloc qObj) (by omega) ha (htx.tabs (by omega)) p0 p1
  rw [hx] at hpk
  have HPK := Lib.hid hpk
  have HP := Lib.hid hp
  have HTB := Lib.hid ht
  obtain ⟨O, hO⟩ : ∃ O, meansQ t = O := ⟨_, rfl⟩
  rw [hO]
  have HOO := Lib.hid hO
  clear hO
  obtain ⟨RS, hRS⟩ : ∃ RS : QRes, leafQ O ⟨src, dst, .bare t⟩ = RS := ⟨_, rfl⟩
  rw [hRS]
  have HRS := Lib.hid hRS
  clear hRS
  have HA := Lib.hid h1
  have HB := Lib.hid h2
  have HC := Lib.hid h3
  clear h1 h2 h3
  clear hp ht hpx htx hpk hx p0 p1 p2 p3 pf plt
  go_enter Tryz.func50, Tryz.ntmps50
  go_wp2_with fail
  refine HPK.out.mono ?_
  rintro e w1 ⟨rfl, hb1⟩
  simp only [pcV]
  have HT1 := Lib.hid (ts_new (k := 5) (i := (src : Nat)) (j := (dst : Nat)) (t := (ba t)) (f := 0) (z := false) HP.out hb1)
  have hne : ¬ b = w.heap.size := by omega
  have hne2 : ¬ w.heap.size = b := by omega
  have z1 : w.heap.size < w1.heap.size := Nat.lt_of_lt_of_le (by simp) hb1.size
  have hb1x : b < w1.heap.size := by omega
  clear hb1
  have hi := qis_any ⟨src, dst, .bare t⟩ wAND (w1.alloc (.cells #[.int .i64 5, .int .i64 (src : Nat), .int .i64 (dst : Nat), .string (ba t), .int .i64 0, .bool false] 41))
  rw [show isBare wAND (Pce.tok ⟨src, dst, .bare t⟩) = false from decide_eq_false HA.out] at hi
  simp only [pcV] at hi
  have HI1 := Lib.hid hi
  clear hi
  go_wp2_with fail
  refine HI1.out.mono ?_
  rintro e v1 ⟨rfl, hbv⟩
  have HT2 := Lib.hid (HT1.out.below hbv)
  clear hbv
  obtain ⟨p0, p1, p2, p3, pf, plt⟩ := HT2.out.psr.cells
  obtain ⟨r0, r1, r2, r3, r4, rf⟩ := HT2.out.res.cells
  obtain ⟨x0, x1, x2, x3, x4, x5, xf, xl⟩ := HT2.out.box.cells
  have hi := qis_any ⟨src, dst, .bare t⟩ wOR v1
  rw [show isBare wOR (Pce.tok ⟨src, dst, .bare t⟩) = false from decide_eq_false HB.out] at hi
  simp only [pcV] at hi
  have HI2 := Lib.hid hi
  clear hi
  go_wp2_with fail
  refine HI2.out.mono ?_
  rintro e v2 ⟨rfl, hbv⟩
  have HT3 := Lib.hid (HT2.out.below hbv)
  clear hbv
  clear r0 r1 r2 r3 r4 rf p0 p1 p2 p3 pf plt x0 x1 x2 x3 x4 x5 xf xl
  obtain ⟨p0, p1, p2, p3, pf, plt⟩ := HT3.out.psr.cells
  obtain ⟨r0, r1, r2, r3, r4, rf⟩ := HT3.out.res.cells
  obtain ⟨x0, x1, x2, x3, x4, x5, xf, xl⟩ := HT3.out.box.cells
  have HT4 := Lib.hid (HT3.out.at_ dst)
  have hi := qis_any ⟨src, dst, .bare t⟩ wNOT (v2.setCell ⟨b, 1, none⟩ (.int .i64 ((dst : Nat) : Int)))
  rw [show isBare wNOT (Pce.tok ⟨src, dst, .bare t⟩) = false from decide_eq_false HC.out] at hi
  simp only [pcV] at hi
  have HI3 := Lib.hid hi
  clear hi
  go_wp2_with fail
  refine HI3.out.mono ?_
  rintro e v3 ⟨rfl, hbv⟩
  have HT5 := Lib.hid (HT4.out.below hbv)
  clear hbv
  clear r0 r1 r2 r3 r4 rf p0 p1 p2 p3 pf plt x0 x1 x2 x3 x4 x5 xf xl
  obtain ⟨p0, p1, p2, p3, pf, plt⟩ := HT5.out.psr.cells
  obtain ⟨r0, r1, r2, r3, r4, rf⟩ := HT5.out.res.cells
  obtain ⟨x0, x1, x2, x3, x4, x5, xf, xl⟩ := HT5.out.box.cells
  have hlf := qmeans_bare src dst t v3 hl ((HTB.out.off hB hbw HT5.out.off).tabs (by have := heap_lt HT5.out.psr; omega))
  rw [HOO.out] at hlf
  have HLF := Lib.hid hlf
  clear hlf
  go_wp2_with fail
  refine HLF.out.mono ?_
  rintro e v4 ⟨op, fld, y, m, rfl, hb4, hq, hk⟩
  have HQ := Lib.hid hq
  have HK := Lib.hid hk
  have HT6 := Lib.hid (HT5.out.below hb4)
  clear hb4 hq hk
  clear r0 r1 r2 r3 r4 rf p0 p1 p2 p3 pf plt x0 x1 x2 x3 x4 x5 xf xl
  obtain ⟨p0, p1, p2, p3, pf, plt⟩ := HT6.out.psr.cells
  obtain ⟨r0, r1, r2, r3, r4, rf⟩ := HT6.out.res.cells
  obtain ⟨x0, x1, x2, x3, x4, x5, xf, xl⟩ := HT6.out.box.cells
  cases O with
  | some q =>
    simp only [Option.isSome_some]
    have HRR := Lib.hid (show RS = .ok q dst from HRS.out.symm)
    have HSZ := Lib.hid (heap_lt HT6.out.res)
    have z4 := HSZ.out
    go_wp2
    refine bodyPost_ret (v := .agg #[.int .i64 op, .int .i64 fld, .string (ba y), .int .i64 m, .slice none 0 0]) (by simp [results, Tryz.results50, go_sem, z4, r0, r1, r2, r3, r4]) rfl ?_
    rw [HRR.out, HQ.out q rfl]
    refine term_end (r := ⟨op, fld, y, m, (none, 0, 0)⟩) (B := w.heap.size + 1) hbw HT6.out.off (Nat.lt_succ_self _) (QDeep.leaf _ _ op fld y m) HK.out ⟨rfl, HT6.out.psr⟩ (fun e a he => by cases he) ((put5_off v4 w.heap.size _ _ _ _ _).alloc _)
  | none =>
    simp only [Option.isSome_none]
    have HRR := Lib.hid (show RS = .err 2 src from HRS.out.symm)
    have HT7 := Lib.hid (HT6.out.below ((Below.refl v4.heap.size v4).alloc (Nat.le_refl _) (.cells #[.int .i64 op, .int .i64 fld, .string (ba y), .int .i64 m, .slice none 0 0] 25)))
    have hrr := HRR.out
    subst hrr
    clear HRR HRS
    have HFL := Lib.hid (qfail_new s b dst d 2 src (v4.alloc (.cells #[.int .i64 op, .int .i64 fld, .string (ba y), .int .i64 m, .slice none 0 0] 25)) (by omega) HT7.out.psr)
    have HZF := Lib.hid (heap_lt HT7.out.res)
    go_wp2_with fail
    refine HFL.out.mono ?_
    rintro e w9 ⟨rfl, ho9, g, hg1, hg2, hg3, hg4⟩
    have HZ9 : QzAt w9 w.heap.size := (ho9.block _ HZF.out hne2).trans HT7.out.res
    have HO9 := Lib.hid (HT7.out.off.trans ho9)
    have HGG := Lib.hid (show ∃ g, w.heap.size < g ∧ g ≠ b ∧ Psr w9 b s s.length d (.pointer (some ⟨g, 0, none⟩)) ∧ Flt w9 g 2 src from ⟨g, Nat.lt_of_lt_of_le HZF.out hg1, hg2, hg3, hg4⟩)
    clear ho9 hg1 hg2 hg3 hg4
    clear r0 r1 r2 r3 r4 rf p0 p1 p2 p3 pf plt x0 x1 x2 x3 x4 x5 xf xl
    obtain ⟨r0, r1, r2, r3, r4, rf⟩ := HZ9.cells
    clear HZ9
    rw [noRaw_val]
    go_wp2
    refine bodyPost_ret (v := .agg #[.int .i64 0, .int .i64 0, .string ⟨#[]⟩, .int .i64 0, .slice none 0 0]) (by simp [results, Tryz.results50, go_sem, r0, r1, r2, r3, r4]) rfl ?_
    refine term_end (r := noRaw) (q := noQ) (B := w.heap.size + 1) hbw HO9.out (Nat.lt_succ_self _) (QDeep.leaf _ _ 0 0 [] 0) noRaw_ok ?_ (fun e a he => ?_) (put5_off w9 w.heap.size _ _ _ _ _)
    · obtain ⟨g, h1, h2⟩ := HGG.out
      exact ⟨g, Nat.le_of_lt h1, h2⟩
    · injection he with e1 e2
      subst e1
      subst e2
      exact HGG.out
end Go.Proofs.YtomcdhmcjndioaaGreatDoor
end
section
namespace Go.Proofs.YtomcdhmcjndioaaGreatDoor
open Go.RowKit
set_option linter.unusedVariables false

theorem quo_field {src a : Nat} {r raw t : List UInt8} {f g : Nat} {raw2 : List UInt8} {i j : Nat} (h : quoQ src a r f raw = ⟨i, j, .quo t g raw2⟩) : g = f ∧ raw2 = raw ∧ t.length ≤ r.length := by
  unfold quoQ at h
  split at h
  · injection h with h1 h2 h3
    injection h3 with h4 h5 h6
    exact ⟨h5.symm, h6.symm, by rw [← h4]; exact (List.takeWhile_prefix _).length_le⟩
  · injection h with h1 h2 h3
    cases h3
theorem fieldQ_le (s : List UInt8) : fieldQ s ≤ 5 := by
  unfold fieldQ
  repeat (first | omega | split)
theorem bare_words {k : Nat} {l : List UInt8} {i j : Nat} : (∀ t g raw, bareQ k l = ⟨i, j, .quo t g raw⟩ → t.length ≤ l.length ∧ g ≤ 5) ∧ ∀ t, bareQ k l = ⟨i, j, .bare t⟩ → t.length ≤ l.length := by
  have ht : (l.takeWhile (fun c => !edgeQ c)).length ≤ l.length := (List.takeWhile_prefix _).length_le
  unfold bareQ
  dsimp only
  constructor
  · intro t g raw h
    split at h
    · rename_i u hu
      split at h
      · obtain ⟨h1, h2, h3⟩ := quo_field h
        have := congrArg List.length hu
        simp only [List.length_drop, List.length_cons] at this
        exact ⟨by omega, by rw [h1]; exact fieldQ_le _⟩
      · injection h with h1 h2 h3
        cases h3
    · injection h with h1 h2 h3
      cases h3
  · intro t h
    split at h
    · split at h
      · unfold quoQ at h
        split at h <;> (injection h with h1 h2 h3; cases h3)
      · injection h with h1 h2 h3
        injection h3 with h4
        rw [← h4]; exact ht
    · injection h with h1 h2 h3
      injection h3 with h4
      rw [← h4]; exact ht
/-- A token's text is no longer than the query's. -/
theorem peek_words {s : List UInt8} {a i j : Nat} : (∀ t g raw, peekQ s a = ⟨i, j, .quo t g raw⟩ → t.length ≤ s.length ∧ g ≤ 5) ∧ ∀ t, peekQ s a = ⟨i, j, .bare t⟩ → t.length ≤ s.length := by
  unfold peekQ
  have hl : (s.drop (a + gapQ (s.drop a))).length ≤ s.length := by rw [List.length_drop]; omega
  obtain ⟨l, hL⟩ : ∃ l, s.drop (a + gapQ (s.drop a)) = l := ⟨_, rfl⟩
  rw [hL] at hl ⊢
  cases l with
  | nil => exact ⟨fun t g raw h => (by unfold tokQ at h; injection h with h1 h2 h3; cases h3), fun t h => (by unfold tokQ at h; injection h with h1 h2 h3; cases h3)⟩
  | cons c r =>
    have hb := @bare_words (a + gapQ (s.drop a)) (c :: r) i j
    unfold tokQ
    dsimp only
    constructor
    · intro t g raw h
      split at h
      · injection h with h1 h2 h3; cases h3
      · split at h
        · injection h with h1 h2 h3; cases h3
        · split at h
          · obtain ⟨h1, h2, h3⟩ := quo_field h
            simp only [List.length_cons] at hl
            exact ⟨by omega, by omega⟩
          · split at h
            · injection h with h1 h2 h3; cases h3
            · have := hb.1 t g raw h
              exact ⟨by omega, this.2⟩
    · intro t h
      split at h
      · injection h with h1 h2 h3; cases h3
      · split at h
        · injection h with h1 h2 h3; cases h3
        · split at h
          · unfold quoQ at h
            split at h <;> (injection h with h1 h2 h3; cases h3)
          · split at h
            · injection h with h1 h2 h3; cases h3
            · have := hb.2 t h
              omega
theorem qterm_any (s : List UInt8) (b d B0 f : Nat) (hs : s.length ≤ 1000) (hd : d ≤ 8) (hB : B0 ≤ b) (hT : d < 8 → TermC s b (d + 1) B0 f) (hQ : d < 8 → QryC s b (d + 1) B0 f) : TermC s b d B0 (f + 1) := by
  intro w a ha hf hp ht
  have hin := peek_in s a ha
  obtain ⟨x, hx⟩ : ∃ x, peekQ s a = x := ⟨_, rfl⟩
  obtain ⟨src, dst, tok⟩ := x
  have hon : headQ tok ≠ 0 → a < dst := fun h => by
    have := peek_head (s := s) (a := a) (by rw [hx]; exact h)
    rw [hx] at this
    exact this
  rw [hx] at hin
  dsimp only at hin
  have hr : runQ s (f + 1) .term d a = if headQ tok = 0 then .err 2 src else if headQ tok = 3 then leafQ (valueQ tok) ⟨src, dst, tok⟩ else if 8 ≤ d then .err 10 src
      else if headQ tok = 1 then (runQ s f .term (d + 1) dst).then fun q b => .ok (.mk 13 0 [] 0 [q]) b
      else (runQ s f .qry (d + 1) dst).then fun q b => if shutB (peekQ s b).tok then .ok q (peekQ s b).dst else .err 2 (peekQ s b).src := by
    conv => lhs; unfold runQ
    rw [hx]
  rw [hr]
  have hnot : a < dst → d < 8 → ∀ W : World, Psr W b s dst (d + 1) (.pointer none) → QTB W B0 → Calls Tryz.prog 73 #[.pointer (some ⟨b, 0, none⟩)] W (PEnd W b s (d + 1) ((runQ s f .term (d + 1) dst).then fun q b => .ok (.mk 13 0 [] 0 [q]) b)) :=
    fun h1 h2 W h3 h4 => qnot_any s b (d + 1) B0 f dst W (hT h2) hin.2.2.2 (by omega) h3 h4 hB
  have hbra : a < dst → d < 8 → ∀ W : World, Psr W b s dst (d + 1) (.pointer none) → QTB W B0 → Calls Tryz.prog 74 #[.pointer (some ⟨b, 0, none⟩)] W (PEnd W b s (d + 1) ((runQ s f .qry (d + 1) dst).then fun q b => if shutB (peekQ s b).tok then .ok q (peekQ s b).dst else .err 2 (peekQ s b).src)) :=
    fun h1 h2 W h3 h4 => qbracket_any s b (d + 1) B0 f dst W (by omega) (hQ h2) hin.2.2.2 (by omega) h3 h4 hB
  cases tok with
  | fin => exact qterm_fin s b d B0 a src dst w hs ha hd hx hp ht hB
  | sht => exact qterm_sht s b d B0 a src dst w hs ha hd hx hp ht hB
  | bad => exact qterm_bad s b d B0 a src dst w hs ha hd hx hp ht hB
  | dash => exact qterm_dash s b d B0 a src dst _ (hnot (hon (by decide))) w hs ha hd hx hp ht hB
  | opn => exact qterm_opn s b d B0 a src dst _ (hbra (hon (by decide))) w hs ha hd hx hp ht hB
  | quo t g raw =>
    have h1 := peek_words.1 t g raw hx
    exact qterm_quo s b d B0 a src dst t raw g (by omega) (by omega) w hs ha hd hx hp ht hB
  | bare t =>
    have h1 := peek_words.2 t hx
    by_cases e1 : t = wAND
    · subst e1; exact qterm_and s b d B0 a src dst w hs ha hd hx hp ht hB
    · by_cases e2 : t = wOR
      · subst e2; exact qterm_or s b d B0 a src dst w hs ha hd hx hp ht hB
      · by_cases e3 : t = wNOT
        · subst e3; exact qterm_not s b d B0 a src dst _ (hnot (hon (by decide))) w hs ha hd hx hp ht hB
        · have hh : headQ (.bare t) = 3 := by
            unfold headQ
            dsimp only
            rw [if_neg (not_or.2 ⟨e1, e2⟩), if_neg e3]
          rw [hh]
          exact qterm_bare s b d B0 a src dst t (by omega) e1 e2 e3 w hs ha hd hx hp ht hB
end Go.Proofs.YtomcdhmcjndioaaGreatDoor
end
section
namespace Go.Proofs.YtomcdhmcjndioaaGreatDoor
open Go.RowKit
set_option linter.unusedVariables false

theorem then_ok {R : QRes} {k : Qry → Nat → QRes} {q : Qry} {b : Nat} (h : R.then k = .ok q b) : ∃ q1 b1, R = .ok q1 b1 ∧ k q1 b1 = .ok q b := by
  cases R with
  | ok q1 b1 => exact ⟨q1, b1, rfl, h⟩
  | err e a => cases h
theorem term_on (s : List UInt8) (f d a : Nat) (q : Qry) (b : Nat) (ha : a ≤ s.length) (h : runQ s f .term d a = .ok q b) : a < b := by
  cases f with
  | zero => cases h
  | succ f =>
    have hp := peek_in s a ha
    unfold runQ at h
    by_cases h0 : headQ (peekQ s a).tok = 0
    · rw [if_pos h0] at h; cases h
    · have hon := peek_head h0
      rw [if_neg h0] at h
      split at h
      · unfold leafQ at h
        split at h
        · injection h with h1 h2
          omega
        · cases h
      · split at h
        · cases h
        · split at h
          · obtain ⟨q1, b1, h1, h2⟩ := then_ok h
            have hi := run_in s f .term (d + 1) _ hp.2.2.2
            rw [h1] at hi
            injection h2 with h3 h4
            have := hi.1
            omega
          · obtain ⟨q1, b1, h1, h2⟩ := then_ok h
            have hi := run_in s f .qry (d + 1) _ hp.2.2.2
            rw [h1] at hi
            have hq := peek_in s b1 hi.2
            have := hi.1
            split at h2
            · injection h2 with h3 h4
              omega
            · cases h2
theorem row_on (s : List UInt8) (f d a : Nat) (q : Qry) (b : Nat) (ha : a ≤ s.length) (h : runQ s f .row d a = .ok q b) : a < b := by
  cases f with
  | zero => cases h
  | succ f =>
    unfold runQ at h
    obtain ⟨q1, b1, h1, h2⟩ := then_ok h
    have h3 := term_on s f d a q1 b1 ha h1
    have hi := run_in s f .term d a ha
    rw [h1] at hi
    have hj := run_in s f (.rows [q1]) d b1 hi.2
    rw [h2] at hj
    have := hj.1
    omega
end Go.Proofs.YtomcdhmcjndioaaGreatDoor
end
