/- Reference 37: term, by the kind of its token (printed by gen_rtrm.py). -/
import Derived.Test.YtomcdhmcjndioaaGreatDoorV23
section
namespace Go.Proofs.YtomcdhmcjndioaaGreatDoor
open Go.RowKit
set_option linter.unusedVariables false

set_option maxRecDepth 100000 in
set_option maxHeartbeats 4000000 in
theorem rterm_fin (s : List UInt8) (b d a src dst : Nat) (w : World) (hs : s.length ≤ 1000) (ha : a ≤ s.length) (hd : d ≤ 8) (hx : peekQ s a = ⟨src, dst, .fin⟩) (hp : RPsr w b s a d 0 0) :
    Calls Tryz.prog 52 #[.pointer (some ⟨b, 0, none⟩)] w (REnd w b s d (.err 2 src)) := by
  have hbw := heap_lt hp
  have hin := peek_in s a ha
  rw [hx] at hin
  dsimp only at hin
  have hpx := hp.below ((Below.refl w.heap.size w).alloc (Nat.le_refl _) qObj) hbw
  obtain ⟨p0, p1, p2, p3, p4, pf, plt⟩ := hpx.cells
  have hpk := rpeek_any s a b (w.alloc qObj) (by omega) ha p0 p1
  rw [hx] at hpk
  have HPK := Lib.hid hpk
  have HP := Lib.hid hp
  clear hp hpx hpk hx p0 p1 p2 p3 p4 pf plt
  go_enter Tryz.func52, Tryz.ntmps52
  go_wp2_with fail
  refine HPK.out.mono ?_
  rintro e w1 ⟨rfl, hb1⟩
  simp only [rpcV]
  have HT1 := Lib.hid (rts_new HP.out hb1)
  have hne : ¬ b = w.heap.size := by omega
  have hne2 : ¬ w.heap.size = b := by omega
  have z1 : w.heap.size < w1.heap.size := Nat.lt_of_lt_of_le (by simp) hb1.size
  have hb1x : b < w1.heap.size := by omega
  clear hb1
  obtain ⟨p0, p1, p2, p3, p4, pf, plt⟩ := HT1.out.psr.cells
  replace p3 : _ = some (Value.int .i64 0) := p3
  obtain ⟨r0, r1, r2, r3, r4, rf⟩ := HT1.out.res.cells
  have HT2 := Lib.hid (show RTS w (w1.alloc (.cells #[.int .i64 (src : Nat), .int .i64 (dst : Nat), .int .i64 0, .string ⟨#[]⟩, .bool false, .string ⟨#[]⟩, .bool false] 51)) b s a d from HT1.out.below ((Below.refl _ _).alloc (Nat.le_refl _) _))
  have HFL := Lib.hid (rfail_new s b a d d 2 src (w1.alloc (.cells #[.int .i64 (src : Nat), .int .i64 (dst : Nat), .int .i64 0, .string ⟨#[]⟩, .bool false, .string ⟨#[]⟩, .bool false] 51)) (by omega) (by decide) (Nat.le_refl _) (by omega) HT2.out.psr)
  go_wp2_with fail
  refine HFL.out.mono ?_
  rintro e w9 ⟨rfl, ho9, hst9⟩
  have HZ9 : QzAt w9 w.heap.size := (ho9.block _ (heap_lt HT2.out.res) hne2).trans HT2.out.res
  have HO9 := Lib.hid (HT2.out.off.trans ho9)
  have HS9 := Lib.hid (hst9 noQ)
  clear ho9 hst9
  clear r0 r1 r2 r3 r4 rf p0 p1 p2 p3 p4 pf plt
  obtain ⟨r0, r1, r2, r3, r4, rf⟩ := HZ9.cells
  clear HZ9
  rw [noRaw_val]
  go_wp2
  refine bodyPost_ret (v := .agg #[.int .i64 0, .int .i64 0, .string ⟨#[]⟩, .int .i64 0, .slice none 0 0]) (by simp [results, Tryz.results52, go_sem, r0, r1, r2, r3, r4]) rfl ?_
  exact rterm_end (r := noRaw) (q := noQ) (B := w.heap.size + 1) hbw HO9.out (Nat.lt_succ_self _) (QDeep.leaf _ _ 0 0 [] 0) noRaw_ok HS9.out (put5_off w9 w.heap.size _ _ _ _ _)
set_option maxRecDepth 100000 in
set_option maxHeartbeats 4000000 in
theorem rterm_sht (s : List UInt8) (b d a src dst : Nat) (w : World) (hs : s.length ≤ 1000) (ha : a ≤ s.length) (hd : d ≤ 8) (hx : peekQ s a = ⟨src, dst, .sht⟩) (hp : RPsr w b s a d 0 0) :
    Calls Tryz.prog 52 #[.pointer (some ⟨b, 0, none⟩)] w (REnd w b s d (.err 2 src)) := by
  have hbw := heap_lt hp
  have hin := peek_in s a ha
  rw [hx] at hin
  dsimp only at hin
  have hpx := hp.below ((Below.refl w.heap.size w).alloc (Nat.le_refl _) qObj) hbw
  obtain ⟨p0, p1, p2, p3, p4, pf, plt⟩ := hpx.cells
  have hpk := rpeek_any s a b (w.alloc qObj) (by omega) ha p0 p1
  rw [hx] at hpk
  have HPK := Lib.hid hpk
  have HP := Lib.hid hp
  clear hp hpx hpk hx p0 p1 p2 p3 p4 pf plt
  go_enter Tryz.func52, Tryz.ntmps52
  go_wp2_with fail
  refine HPK.out.mono ?_
  rintro e w1 ⟨rfl, hb1⟩
  simp only [rpcV]
  have HT1 := Lib.hid (rts_new HP.out hb1)
  have hne : ¬ b = w.heap.size := by omega
  have hne2 : ¬ w.heap.size = b := by omega
  have z1 : w.heap.size < w1.heap.size := Nat.lt_of_lt_of_le (by simp) hb1.size
  have hb1x : b < w1.heap.size := by omega
  clear hb1
  obtain ⟨p0, p1, p2, p3, p4, pf, plt⟩ := HT1.out.psr.cells
  replace p3 : _ = some (Value.int .i64 0) := p3
  obtain ⟨r0, r1, r2, r3, r4, rf⟩ := HT1.out.res.cells
  have HT2 := Lib.hid (show RTS w (w1.alloc (.cells #[.int .i64 (src : Nat), .int .i64 (dst : Nat), .int .i64 2, .string ⟨#[]⟩, .bool false, .string ⟨#[]⟩, .bool false] 51)) b s a d from HT1.out.below ((Below.refl _ _).alloc (Nat.le_refl _) _))
  have HFL := Lib.hid (rfail_new s b a d d 2 src (w1.alloc (.cells #[.int .i64 (src : Nat), .int .i64 (dst : Nat), .int .i64 2, .string ⟨#[]⟩, .bool false, .string ⟨#[]⟩, .bool false] 51)) (by omega) (by decide) (Nat.le_refl _) (by omega) HT2.out.psr)
  go_wp2_with fail
  refine HFL.out.mono ?_
  rintro e w9 ⟨rfl, ho9, hst9⟩
  have HZ9 : QzAt w9 w.heap.size := (ho9.block _ (heap_lt HT2.out.res) hne2).trans HT2.out.res
  have HO9 := Lib.hid (HT2.out.off.trans ho9)
  have HS9 := Lib.hid (hst9 noQ)
  clear ho9 hst9
  clear r0 r1 r2 r3 r4 rf p0 p1 p2 p3 p4 pf plt
  obtain ⟨r0, r1, r2, r3, r4, rf⟩ := HZ9.cells
  clear HZ9
  rw [noRaw_val]
  go_wp2
  refine bodyPost_ret (v := .agg #[.int .i64 0, .int .i64 0, .string ⟨#[]⟩, .int .i64 0, .slice none 0 0]) (by simp [results, Tryz.results52, go_sem, r0, r1, r2, r3, r4]) rfl ?_
  exact rterm_end (r := noRaw) (q := noQ) (B := w.heap.size + 1) hbw HO9.out (Nat.lt_succ_self _) (QDeep.leaf _ _ 0 0 [] 0) noRaw_ok HS9.out (put5_off w9 w.heap.size _ _ _ _ _)
set_option maxRecDepth 100000 in
set_option maxHeartbeats 4000000 in
theorem rterm_bad (s : List UInt8) (b d a src dst : Nat) (w : World) (hs : s.length ≤ 1000) (ha : a ≤ s.length) (hd : d ≤ 8) (hx : peekQ s a = ⟨src, dst, .bad⟩) (hp : RPsr w b s a d 0 0) :
    Calls Tryz.prog 52 #[.pointer (some ⟨b, 0, none⟩)] w (REnd w b s d (.err 2 src)) := by
  have hbw := heap_lt hp
  have hin := peek_in s a ha
  rw [hx] at hin
  dsimp only at hin
  have hpx := hp.below ((Below.refl w.heap.size w).alloc (Nat.le_refl _) qObj) hbw
  obtain ⟨p0, p1, p2, p3, p4, pf, plt⟩ := hpx.cells
  have hpk := rpeek_any s a b (w.alloc qObj) (by omega) ha p0 p1
  rw [hx] at hpk
  have HPK := Lib.hid hpk
  have HP := Lib.hid hp
  clear hp hpx hpk hx p0 p1 p2 p3 p4 pf plt
  go_enter Tryz.func52, Tryz.ntmps52
  go_wp2_with fail
  refine HPK.out.mono ?_
  rintro e w1 ⟨rfl, hb1⟩
  simp only [rpcV]
  have HT1 := Lib.hid (rts_new HP.out hb1)
  have hne : ¬ b = w.heap.size := by omega
  have hne2 : ¬ w.heap.size = b := by omega
  have z1 : w.heap.size < w1.heap.size := Nat.lt_of_lt_of_le (by simp) hb1.size
  have hb1x : b < w1.heap.size := by omega
  clear hb1
  obtain ⟨p0, p1, p2, p3, p4, pf, plt⟩ := HT1.out.psr.cells
  replace p3 : _ = some (Value.int .i64 0) := p3
  obtain ⟨r0, r1, r2, r3, r4, rf⟩ := HT1.out.res.cells
  have HT2 := Lib.hid (show RTS w (w1.alloc (.cells #[.int .i64 (src : Nat), .int .i64 (s.length : Nat), .int .i64 4, .string ⟨#[]⟩, .bool false, .string ⟨#[]⟩, .bool true] 51)) b s a d from HT1.out.below ((Below.refl _ _).alloc (Nat.le_refl _) _))
  have HFL := Lib.hid (rfail_new s b a d d 2 src (w1.alloc (.cells #[.int .i64 (src : Nat), .int .i64 (s.length : Nat), .int .i64 4, .string ⟨#[]⟩, .bool false, .string ⟨#[]⟩, .bool true] 51)) (by omega) (by decide) (Nat.le_refl _) (by omega) HT2.out.psr)
  go_wp2_with fail
  refine HFL.out.mono ?_
  rintro e w9 ⟨rfl, ho9, hst9⟩
  have HZ9 : QzAt w9 w.heap.size := (ho9.block _ (heap_lt HT2.out.res) hne2).trans HT2.out.res
  have HO9 := Lib.hid (HT2.out.off.trans ho9)
  have HS9 := Lib.hid (hst9 noQ)
  clear ho9 hst9
  clear r0 r1 r2 r3 r4 rf p0 p1 p2 p3 p4 pf plt
  obtain ⟨r0, r1, r2, r3, r4, rf⟩ := HZ9.cells
  clear HZ9
  rw [noRaw_val]
  go_wp2
  refine bodyPost_ret (v := .agg #[.int .i64 0, .int .i64 0, .string ⟨#[]⟩, .int .i64 0, .slice none 0 0]) (by simp [results, Tryz.results52, go_sem, r0, r1, r2, r3, r4]) rfl ?_
  exact rterm_end (r := noRaw) (q := noQ) (B := w.heap.size + 1) hbw HO9.out (Nat.lt_succ_self _) (QDeep.leaf _ _ 0 0 [] 0) noRaw_ok HS9.out (put5_off w9 w.heap.size _ _ _ _ _)
set_option maxRecDepth 100000 in
set_option maxHeartbeats 4000000 in
theorem rterm_and (s : List UInt8) (b d a src dst : Nat) (w : World) (hs : s.length ≤ 1000) (ha : a ≤ s.length) (hd : d ≤ 8) (hx : peekQ s a = ⟨src, dst, (.bare wAND)⟩) (hp : RPsr w b s a d 0 0) :
    Calls Tryz.prog 52 #[.pointer (some ⟨b, 0, none⟩)] w (REnd w b s d (.err 2 src)) := by
  have hbw := heap_lt hp
  have hin := peek_in s a ha
  rw [hx] at hin
  dsimp only at hin
  have hpx := hp.below ((Below.refl w.heap.size w).alloc (Nat.le_refl _) qObj) hbw
  obtain ⟨p0, p1, p2, p3, p4, pf, plt⟩ := hpx.cells
  have hpk := rpeek_any s a b (w.alloc qObj) (by omega) ha p0 p1
  rw [hx] at hpk
  have HPK := Lib.hid hpk
  have HP := Lib.hid hp
  clear hp hpx hpk hx p0 p1 p2 p3 p4 pf plt
  go_enter Tryz.func52, Tryz.ntmps52
  go_wp2_with fail
  refine HPK.out.mono ?_
  rintro e w1 ⟨rfl, hb1⟩
  simp only [rpcV]
  rw [show ba wAND = ⟨#[65, 78, 68]⟩ from rfl]
  have HT1 := Lib.hid (rts_new HP.out hb1)
  have hne : ¬ b = w.heap.size := by omega
  have hne2 : ¬ w.heap.size = b := by omega
  have z1 : w.heap.size < w1.heap.size := Nat.lt_of_lt_of_le (by simp) hb1.size
  have hb1x : b < w1.heap.size := by omega
  clear hb1
  obtain ⟨p0, p1, p2, p3, p4, pf, plt⟩ := HT1.out.psr.cells
  replace p3 : _ = some (Value.int .i64 0) := p3
  obtain ⟨r0, r1, r2, r3, r4, rf⟩ := HT1.out.res.cells
  have HT2 := Lib.hid (show RTS w (w1.alloc (.cells #[.int .i64 (src : Nat), .int .i64 (dst : Nat), .int .i64 5, .string ⟨#[65, 78, 68]⟩, .bool false, .string ⟨#[]⟩, .bool false] 51)) b s a d from HT1.out.below ((Below.refl _ _).alloc (Nat.le_refl _) _))
  have HFL := Lib.hid (rfail_new s b a d d 2 src (w1.alloc (.cells #[.int .i64 (src : Nat), .int .i64 (dst : Nat), .int .i64 5, .string ⟨#[65, 78, 68]⟩, .bool false, .string ⟨#[]⟩, .bool false] 51)) (by omega) (by decide) (Nat.le_refl _) (by omega) HT2.out.psr)
  go_wp2_with fail
  refine HFL.out.mono ?_
  rintro e w9 ⟨rfl, ho9, hst9⟩
  have HZ9 : QzAt w9 w.heap.size := (ho9.block _ (heap_lt HT2.out.res) hne2).trans HT2.out.res
  have HO9 := Lib.hid (HT2.out.off.trans ho9)
  have HS9 := Lib.hid (hst9 noQ)
  clear ho9 hst9
  clear r0 r1 r2 r3 r4 rf p0 p1 p2 p3 p4 pf plt
  obtain ⟨r0, r1, r2, r3, r4, rf⟩ := HZ9.cells
  clear HZ9
  rw [noRaw_val]
  go_wp2
  refine bodyPost_ret (v := .agg #[.int .i64 0, .int .i64 0, .string ⟨#[]⟩, .int .i64 0, .slice none 0 0]) (by simp [results, Tryz.results52, go_sem, r0, r1, r2, r3, r4]) rfl ?_
  exact rterm_end (r := noRaw) (q := noQ) (B := w.heap.size + 1) hbw HO9.out (Nat.lt_succ_self _) (QDeep.leaf _ _ 0 0 [] 0) noRaw_ok HS9.out (put5_off w9 w.heap.size _ _ _ _ _)
set_option maxRecDepth 100000 in
set_option maxHeartbeats 4000000 in
theorem rterm_or (s : List UInt8) (b d a src dst : Nat) (w : World) (hs : s.length ≤ 1000) (ha : a ≤ s.length) (hd : d ≤ 8) (hx : peekQ s a = ⟨src, dst, (.bare wOR)⟩) (hp : RPsr w b s a d 0 0) :
    Calls Tryz.prog 52 #[.pointer (some ⟨b, 0, none⟩)] w (REnd w b s d (.err 2 src)) := by
  have hbw := heap_lt hp
  have hin := peek_in s a ha
  rw [hx] at hin
  dsimp only at hin
  have hpx := hp.below ((Below.refl w.heap.size w).alloc (Nat.le_refl _) qObj) hbw
  obtain ⟨p0, p1, p2, p3, p4, pf, plt⟩ := hpx.cells
  have hpk := rpeek_any s a b (w.alloc qObj) (by omega) ha p0 p1
  rw [hx] at hpk
  have HPK := Lib.hid hpk
  have HP := Lib.hid hp
  clear hp hpx hpk hx p0 p1 p2 p3 p4 pf plt
  go_enter Tryz.func52, Tryz.ntmps52
  go_wp2_with fail
  refine HPK.out.mono ?_
  rintro e w1 ⟨rfl, hb1⟩
  simp only [rpcV]
  rw [show ba wOR = ⟨#[79, 82]⟩ from rfl]
  have HT1 := Lib.hid (rts_new HP.out hb1)
  have hne : ¬ b = w.heap.size := by omega
  have hne2 : ¬ w.heap.size = b := by omega
  have z1 : w.heap.size < w1.heap.size := Nat.lt_of_lt_of_le (by simp) hb1.size
  have hb1x : b < w1.heap.size := by omega
  clear hb1
  obtain ⟨p0, p1, p2, p3, p4, pf, plt⟩ := HT1.out.psr.cells
  replace p3 : _ = some (Value.int .i64 0) := p3
  obtain ⟨r0, r1, r2, r3, r4, rf⟩ := HT1.out.res.cells
  have HT2 := Lib.hid (show RTS w (w1.alloc (.cells #[.int .i64 (src : Nat), .int .i64 (dst : Nat), .int .i64 5, .string ⟨#[79, 82]⟩, .bool false, .string ⟨#[]⟩, .bool false] 51)) b s a d from HT1.out.below ((Below.refl _ _).alloc (Nat.le_refl _) _))
  have HFL := Lib.hid (rfail_new s b a d d 2 src (w1.alloc (.cells #[.int .i64 (src : Nat), .int .i64 (dst : Nat), .int .i64 5, .string ⟨#[79, 82]⟩, .bool false, .string ⟨#[]⟩, .bool false] 51)) (by omega) (by decide) (Nat.le_refl _) (by omega) HT2.out.psr)
  go_wp2_with fail
  refine HFL.out.mono ?_
  rintro e w9 ⟨rfl, ho9, hst9⟩
  have HZ9 : QzAt w9 w.heap.size := (ho9.block _ (heap_lt HT2.out.res) hne2).trans HT2.out.res
  have HO9 := Lib.hid (HT2.out.off.trans ho9)
  have HS9 := Lib.hid (hst9 noQ)
  clear ho9 hst9
  clear r0 r1 r2 r3 r4 rf p0 p1 p2 p3 p4 pf plt
  obtain ⟨r0, r1, r2, r3, r4, rf⟩ := HZ9.cells
  clear HZ9
  rw [noRaw_val]
  go_wp2
  refine bodyPost_ret (v := .agg #[.int .i64 0, .int .i64 0, .string ⟨#[]⟩, .int .i64 0, .slice none 0 0]) (by simp [results, Tryz.results52, go_sem, r0, r1, r2, r3, r4]) rfl ?_
  exact rterm_end (r := noRaw) (q := noQ) (B := w.heap.size + 1) hbw HO9.out (Nat.lt_succ_self _) (QDeep.leaf _ _ 0 0 [] 0) noRaw_ok HS9.out (put5_off w9 w.heap.size _ _ _ _ _)
set_option maxRecDepth 100000 in
set_option maxHeartbeats 4000000 in
theorem rterm_dash (s : List UInt8) (b d a src dst : Nat) (R : QRes) (hF : d < 8 → ∀ W : World, RPsr W b s dst (d + 1) 0 0 → Calls Tryz.prog 52 #[.pointer (some ⟨b, 0, none⟩)] W (REnd W b s (d + 1) R)) (w : World) (hs : s.length ≤ 1000) (ha : a ≤ s.length) (hd : d ≤ 8) (hx : peekQ s a = ⟨src, dst, .dash⟩) (hp : RPsr w b s a d 0 0) :
    Calls Tryz.prog 52 #[.pointer (some ⟨b, 0, none⟩)] w (REnd w b s d (if 8 ≤ d then .err 10 src else R.then fun q b => .ok (.mk 13 0 [] 0 [q]) b)) := by
  have hbw := heap_lt hp
  have hin := peek_in s a ha
  rw [hx] at hin
  dsimp only at hin
  have hpx := hp.below ((Below.refl w.heap.size w).alloc (Nat.le_refl _) qObj) hbw
  obtain ⟨p0, p1, p2, p3, p4, pf, plt⟩ := hpx.cells
  have hpk := rpeek_any s a b (w.alloc qObj) (by omega) ha p0 p1
  rw [hx] at hpk
  have HPK := Lib.hid hpk
  have HP := Lib.hid hp
  have HFF := Lib.hid hF
  clear hF
  obtain ⟨RS, hRS⟩ : ∃ RS : QRes, (if 8 ≤ d then .err 10 src else R.then fun q b => .ok (.mk 13 0 [] 0 [q]) b) = RS := ⟨_, rfl⟩
  rw [hRS]
  have HRS := Lib.hid hRS
  clear hRS
  clear hp hpx hpk hx p0 p1 p2 p3 p4 pf plt
  go_enter Tryz.func52, Tryz.ntmps52
  go_wp2_with fail
  refine HPK.out.mono ?_
  rintro e w1 ⟨rfl, hb1⟩
  simp only [rpcV]
  have HT1 := Lib.hid (rts_new HP.out hb1)
  have hne : ¬ b = w.heap.size := by omega
  have hne2 : ¬ w.heap.size = b := by omega
  have z1 : w.heap.size < w1.heap.size := Nat.lt_of_lt_of_le (by simp) hb1.size
  have hb1x : b < w1.heap.size := by omega
  clear hb1
  obtain ⟨p0, p1, p2, p3, p4, pf, plt⟩ := HT1.out.psr.cells
  replace p3 : _ = some (Value.int .i64 0) := p3
  obtain ⟨r0, r1, r2, r3, r4, rf⟩ := HT1.out.res.cells
  by_cases hc : 8 ≤ d
  · have hr : RS = .err 10 src := HRS.out.symm.trans (if_pos hc)
    clear HRS
    subst hr
    have hdi : (decide (8 ≤ (d : Int))) = true := by simp; omega
    have hdj : 8 ≤ (d : Int) := by omega
    have HT2 := Lib.hid (show RTS w ((w1.setCell ⟨b, 1, none⟩ (.int .i64 (dst : Nat))).alloc (.cells #[.int .i64 (src : Nat), .int .i64 (dst : Nat), .int .i64 3, .string ⟨#[]⟩, .bool false, .string ⟨#[]⟩, .bool false] 51)) b s dst d from (HT1.out.at_ dst).below ((Below.refl _ _).alloc (Nat.le_refl _) _))
    have HFL := Lib.hid (rfail_new s b dst d d 10 src ((w1.setCell ⟨b, 1, none⟩ (.int .i64 (dst : Nat))).alloc (.cells #[.int .i64 (src : Nat), .int .i64 (dst : Nat), .int .i64 3, .string ⟨#[]⟩, .bool false, .string ⟨#[]⟩, .bool false] 51)) (by omega) (by decide) (Nat.le_refl _) (by omega) HT2.out.psr)
    go_wp2_with fail
    refine HFL.out.mono ?_
    rintro e w9 ⟨rfl, ho9, hst9⟩
    have HZ9 : QzAt w9 w.heap.size := (ho9.block _ (heap_lt HT2.out.res) hne2).trans HT2.out.res
    have HO9 := Lib.hid (HT2.out.off.trans ho9)
    have HS9 := Lib.hid (hst9 noQ)
    clear ho9 hst9
    clear r0 r1 r2 r3 r4 rf p0 p1 p2 p3 p4 pf plt
    obtain ⟨r0, r1, r2, r3, r4, rf⟩ := HZ9.cells
    clear HZ9
    rw [noRaw_val]
    go_wp2
    refine bodyPost_ret (v := .agg #[.int .i64 0, .int .i64 0, .string ⟨#[]⟩, .int .i64 0, .slice none 0 0]) (by simp [results, Tryz.results52, go_sem, r0, r1, r2, r3, r4]) rfl ?_
    exact rterm_end (r := noRaw) (q := noQ) (B := w.heap.size + 1) hbw HO9.out (Nat.lt_succ_self _) (QDeep.leaf _ _ 0 0 [] 0) noRaw_ok HS9.out (put5_off w9 w.heap.size _ _ _ _ _)
  · have hr := HRS.out.symm.trans (if_neg hc)
    clear HRS
    subst hr
    have hdi : (decide (8 ≤ (d : Int))) = false := by simp; omega
    have hdj : ¬ 8 ≤ (d : Int) := by omega
    have h4 : RTS w ((w1.setCell ⟨b, 1, none⟩ (.int .i64 (dst : Nat))).setCell ⟨b, 2, none⟩ (.int .i64 ((d + 1 : Nat) : Int))) b s dst (d + 1) := (HT1.out.at_ dst).deep (d + 1)
    rw [show (((d + 1 : Nat)) : Int) = (d : Int) + 1 by omega] at h4
    obtain ⟨V, hV⟩ : ∃ V, ((w1.setCell ⟨b, 1, none⟩ (.int .i64 (dst : Nat))).setCell ⟨b, 2, none⟩ (.int .i64 ((d : Int) + 1))) = V := ⟨_, rfl⟩
    have hVs : V.heap.size = w1.heap.size := by rw [← hV]; simp
    have HV := Lib.hid hV
    rw [hV] at h4
    have hal : Below V.heap.size V ((V.alloc (.cells #[.int .i64 (src : Nat), .int .i64 (dst : Nat), .int .i64 3, .string ⟨#[]⟩, .bool false, .string ⟨#[]⟩, .bool false] 51)).alloc qObj) := ((Below.refl _ _).alloc (Nat.le_refl _) _).alloc (by simp) _
    have HT5 := Lib.hid (h4.below hal)
    have hzq : QzAt ((V.alloc (.cells #[.int .i64 (src : Nat), .int .i64 (dst : Nat), .int .i64 3, .string ⟨#[]⟩, .bool false, .string ⟨#[]⟩, .bool false] 51)).alloc qObj) (w1.heap.size + 1) := by
      have h := qzAt_new (V.alloc (.cells #[.int .i64 (src : Nat), .int .i64 (dst : Nat), .int .i64 3, .string ⟨#[]⟩, .bool false, .string ⟨#[]⟩, .bool false] 51))
      rw [World.size_alloc, hVs] at h
      exact h
    have hW2s : ((V.alloc (.cells #[.int .i64 (src : Nat), .int .i64 (dst : Nat), .int .i64 3, .string ⟨#[]⟩, .bool false, .string ⟨#[]⟩, .bool false] 51)).alloc qObj).heap.size = w1.heap.size + 2 := by simp [hVs]
    obtain ⟨W2, hW2⟩ : ∃ W2, (V.alloc (.cells #[.int .i64 (src : Nat), .int .i64 (dst : Nat), .int .i64 3, .string ⟨#[]⟩, .bool false, .string ⟨#[]⟩, .bool false] 51)).alloc qObj = W2 := ⟨_, rfl⟩
    have HW2 := Lib.hid hW2
    rw [hW2] at HT5 hzq hW2s
    have HCC := Lib.hid (HFF.out (by omega) W2 HT5.out.psr)
    have HZQ := Lib.hid hzq
    clear h4 hV hW2 hal hzq
    go_wp2_with fail
    rw [HV.out, HW2.out]
    refine HCC.out.mono ?_
    rintro e w3 ⟨⟨o, fl, t, n, A, m, c⟩, q, rfl, hq, hk, ho, hst⟩
    have HQ3 := Lib.hid hq
    have HK3 := Lib.hid hk
    have HO3 := Lib.hid ho
    have HS3 := Lib.hid hst
    have HZ3 := Lib.hid (show QzAt w3 w.heap.size from (ho.block _ (heap_lt HT5.out.res) hne2).trans HT5.out.res)
    have HZQ3 := Lib.hid (show QzAt w3 (w1.heap.size + 1) from (ho.block _ (heap_lt HZQ.out) (by omega)).trans HZQ.out)
    have hs3 : w1.heap.size + 2 ≤ w3.heap.size := by have := ho.size; omega
    obtain ⟨d', er', pl', hd0, hd', hps, her⟩ := hst.psr
    have HPS := Lib.hid hps
    have HER := Lib.hid her
    clear hq hk ho hst her
    clear r0 r1 r2 r3 r4 rf p0 p1 p2 p3 p4 pf plt
    obtain ⟨p0, p1, p2, p3, p4, pf, plt⟩ := HPS.out.cells
    obtain ⟨r0, r1, r2, r3, r4, rf⟩ := HZ3.out.cells
    obtain ⟨q0, q1, q2, q3, q4, qf⟩ := HZQ3.out.cells
    have hg1 : ¬ w1.heap.size + 1 = b := by omega
    have hg2 : ¬ b = w1.heap.size + 1 := by omega
    have hg3 : ¬ w1.heap.size + 1 = w.heap.size := by omega
    have hg4 : ¬ w.heap.size = w1.heap.size + 1 := by omega
    have zq : w1.heap.size + 1 < w3.heap.size := by omega
    have zr : w.heap.size < w3.heap.size := by omega
    clear hps
    unfold RawQ.val
    dsimp only
    go_wp2
    refine bodyPost_ret (v := .agg #[.int .i64 13, .int .i64 0, .string ⟨#[]⟩, .int .i64 0, .slice (some ⟨w3.heap.size, 0, none⟩) 1 1]) (by simp [results, Tryz.results52, go_sem, zr, r0, r1, r2, r3, r4]) rfl ?_
    exact rnot_fin (r := ⟨o, fl, t, n, (A, m, c)⟩) hbw (by omega) (by omega) HT5.out.off HQ3.out HK3.out HO3.out HS3.out HPS.out (by omega)
set_option maxRecDepth 100000 in
set_option maxHeartbeats 4000000 in
theorem rterm_not (s : List UInt8) (b d a src dst : Nat) (R : QRes) (hF : d < 8 → ∀ W : World, RPsr W b s dst (d + 1) 0 0 → Calls Tryz.prog 52 #[.pointer (some ⟨b, 0, none⟩)] W (REnd W b s (d + 1) R)) (w : World) (hs : s.length ≤ 1000) (ha : a ≤ s.length) (hd : d ≤ 8) (hx : peekQ s a = ⟨src, dst, (.bare wNOT)⟩) (hp : RPsr w b s a d 0 0) :
    Calls Tryz.prog 52 #[.pointer (some ⟨b, 0, none⟩)] w (REnd w b s d (if 8 ≤ d then .err 10 src else R.then fun q b => .ok (.mk 13 0 [] 0 [q]) b)) := by
  have hbw := heap_lt hp
  have hin := peek_in s a ha
  rw [hx] at hin
  dsimp only at hin
  have hpx := hp.below ((Below.refl w.heap.size w).alloc (Nat.le_refl _) qObj) hbw
  obtain ⟨p0, p1, p2, p3, p4, pf, plt⟩ := hpx.cells
  have hpk := rpeek_any s a b (w.alloc qObj) (by omega) ha p0 p1
  rw [hx] at hpk
  have HPK := Lib.hid hpk
  have HP := Lib.hid hp
  have HFF := Lib.hid hF
  clear hF
  obtain ⟨RS, hRS⟩ : ∃ RS : QRes, (if 8 ≤ d then .err 10 src else R.then fun q b => .ok (.mk 13 0 [] 0 [q]) b) = RS := ⟨_, rfl⟩
  rw [hRS]
  have HRS := Lib.hid hRS
  clear hRS
  clear hp hpx hpk hx p0 p1 p2 p3 p4 pf plt
  go_enter Tryz.func52, Tryz.ntmps52
  go_wp2_with fail
  refine HPK.out.mono ?_
  rintro e w1 ⟨rfl, hb1⟩
  simp only [rpcV]
  rw [show ba wNOT = ⟨#[78, 79, 84]⟩ from rfl]
  have HT1 := Lib.hid (rts_new HP.out hb1)
  have hne : ¬ b = w.heap.size := by omega
  have hne2 : ¬ w.heap.size = b := by omega
  have z1 : w.heap.size < w1.heap.size := Nat.lt_of_lt_of_le (by simp) hb1.size
  have hb1x : b < w1.heap.size := by omega
  clear hb1
  obtain ⟨p0, p1, p2, p3, p4, pf, plt⟩ := HT1.out.psr.cells
  replace p3 : _ = some (Value.int .i64 0) := p3
  obtain ⟨r0, r1, r2, r3, r4, rf⟩ := HT1.out.res.cells
  by_cases hc : 8 ≤ d
  · have hr : RS = .err 10 src := HRS.out.symm.trans (if_pos hc)
    clear HRS
    subst hr
    have hdi : (decide (8 ≤ (d : Int))) = true := by simp; omega
    have hdj : 8 ≤ (d : Int) := by omega
    have HT2 := Lib.hid (show RTS w ((w1.setCell ⟨b, 1, none⟩ (.int .i64 (dst : Nat))).alloc (.cells #[.int .i64 (src : Nat), .int .i64 (dst : Nat), .int .i64 5, .string ⟨#[78, 79, 84]⟩, .bool false, .string ⟨#[]⟩, .bool false] 51)) b s dst d from (HT1.out.at_ dst).below ((Below.refl _ _).alloc (Nat.le_refl _) _))
    have HFL := Lib.hid (rfail_new s b dst d d 10 src ((w1.setCell ⟨b, 1, none⟩ (.int .i64 (dst : Nat))).alloc (.cells #[.int .i64 (src : Nat), .int .i64 (dst : Nat), .int .i64 5, .string ⟨#[78, 79, 84]⟩, .bool false, .string ⟨#[]⟩, .bool false] 51)) (by omega) (by decide) (Nat.le_refl _) (by omega) HT2.out.psr)
    go_wp2_with fail
    refine HFL.out.mono ?_
    rintro e w9 ⟨rfl, ho9, hst9⟩
    have HZ9 : QzAt w9 w.heap.size := (ho9.block _ (heap_lt HT2.out.res) hne2).trans HT2.out.res
    have HO9 := Lib.hid (HT2.out.off.trans ho9)
    have HS9 := Lib.hid (hst9 noQ)
    clear ho9 hst9
    clear r0 r1 r2 r3 r4 rf p0 p1 p2 p3 p4 pf plt
    obtain ⟨r0, r1, r2, r3, r4, rf⟩ := HZ9.cells
    clear HZ9
    rw [noRaw_val]
    go_wp2
    refine bodyPost_ret (v := .agg #[.int .i64 0, .int .i64 0, .string ⟨#[]⟩, .int .i64 0, .slice none 0 0]) (by simp [results, Tryz.results52, go_sem, r0, r1, r2, r3, r4]) rfl ?_
    exact rterm_end (r := noRaw) (q := noQ) (B := w.heap.size + 1) hbw HO9.out (Nat.lt_succ_self _) (QDeep.leaf _ _ 0 0 [] 0) noRaw_ok HS9.out (put5_off w9 w.heap.size _ _ _ _ _)
  · have hr := HRS.out.symm.trans (if_neg hc)
    clear HRS
    subst hr
    have hdi : (decide (8 ≤ (d : Int))) = false := by simp; omega
    have hdj : ¬ 8 ≤ (d : Int) := by omega
    have h4 : RTS w ((w1.setCell ⟨b, 1, none⟩ (.int .i64 (dst : Nat))).setCell ⟨b, 2, none⟩ (.int .i64 ((d + 1 : Nat) : Int))) b s dst (d + 1) := (HT1.out.at_ dst).deep (d + 1)
    rw [show (((d + 1 : Nat)) : Int) = (d : Int) + 1 by omega] at h4
    obtain ⟨V, hV⟩ : ∃ V, ((w1.setCell ⟨b, 1, none⟩ (.int .i64 (dst : Nat))).setCell ⟨b, 2, none⟩ (.int .i64 ((d : Int) + 1))) = V := ⟨_, rfl⟩
    have hVs : V.heap.size = w1.heap.size := by rw [← hV]; simp
    have HV := Lib.hid hV
    rw [hV] at h4
    have hal : Below V.heap.size V ((V.alloc (.cells #[.int .i64 (src : Nat), .int .i64 (dst : Nat), .int .i64 5, .string ⟨#[78, 79, 84]⟩, .bool false, .string ⟨#[]⟩, .bool false] 51)).alloc qObj) := ((Below.refl _ _).alloc (Nat.le_refl _) _).alloc (by simp) _
    have HT5 := Lib.hid (h4.below hal)
    have hzq : QzAt ((V.alloc (.cells #[.int .i64 (src : Nat), .int .i64 (dst : Nat), .int .i64 5, .string ⟨#[78, 79, 84]⟩, .bool false, .string ⟨#[]⟩, .bool false] 51)).alloc qObj) (w1.heap.size + 1) := by
      have h := qzAt_new (V.alloc (.cells #[.int .i64 (src : Nat), .int .i64 (dst : Nat), .int .i64 5, .string ⟨#[78, 79, 84]⟩, .bool false, .string ⟨#[]⟩, .bool false] 51))
      rw [World.size_alloc, hVs] at h
      exact h
    have hW2s : ((V.alloc (.cells #[.int .i64 (src : Nat), .int .i64 (dst : Nat), .int .i64 5, .string ⟨#[78, 79, 84]⟩, .bool false, .string ⟨#[]⟩, .bool false] 51)).alloc qObj).heap.size = w1.heap.size + 2 := by simp [hVs]
    obtain ⟨W2, hW2⟩ : ∃ W2, (V.alloc (.cells #[.int .i64 (src : Nat), .int .i64 (dst : Nat), .int .i64 5, .string ⟨#[78, 79, 84]⟩, .bool false, .string ⟨#[]⟩, .bool false] 51)).alloc qObj = W2 := ⟨_, rfl⟩
    have HW2 := Lib.hid hW2
    rw [hW2] at HT5 hzq hW2s
    have HCC := Lib.hid (HFF.out (by omega) W2 HT5.out.psr)
    have HZQ := Lib.hid hzq
    clear h4 hV hW2 hal hzq
    go_wp2_with fail
    rw [HV.out, HW2.out]
    refine HCC.out.mono ?_
    rintro e w3 ⟨⟨o, fl, t, n, A, m, c⟩, q, rfl, hq, hk, ho, hst⟩
    have HQ3 := Lib.hid hq
    have HK3 := Lib.hid hk
    have HO3 := Lib.hid ho
    have HS3 := Lib.hid hst
    have HZ3 := Lib.hid (show QzAt w3 w.heap.size from (ho.block _ (heap_lt HT5.out.res) hne2).trans HT5.out.res)
    have HZQ3 := Lib.hid (show QzAt w3 (w1.heap.size + 1) from (ho.block _ (heap_lt HZQ.out) (by omega)).trans HZQ.out)
    have hs3 : w1.heap.size + 2 ≤ w3.heap.size := by have := ho.size; omega
    obtain ⟨d', er', pl', hd0, hd', hps, her⟩ := hst.psr
    have HPS := Lib.hid hps
    have HER := Lib.hid her
    clear hq hk ho hst her
    clear r0 r1 r2 r3 r4 rf p0 p1 p2 p3 p4 pf plt
    obtain ⟨p0, p1, p2, p3, p4, pf, plt⟩ := HPS.out.cells
    obtain ⟨r0, r1, r2, r3, r4, rf⟩ := HZ3.out.cells
    obtain ⟨q0, q1, q2, q3, q4, qf⟩ := HZQ3.out.cells
    have hg1 : ¬ w1.heap.size + 1 = b := by omega
    have hg2 : ¬ b = w1.heap.size + 1 := by omega
    have hg3 : ¬ w1.heap.size + 1 = w.heap.size := by omega
    have hg4 : ¬ w.heap.size = w1.heap.size + 1 := by omega
    have zq : w1.heap.size + 1 < w3.heap.size := by omega
    have zr : w.heap.size < w3.heap.size := by omega
    clear hps
    unfold RawQ.val
    dsimp only
    go_wp2
    refine bodyPost_ret (v := .agg #[.int .i64 13, .int .i64 0, .string ⟨#[]⟩, .int .i64 0, .slice (some ⟨w3.heap.size, 0, none⟩) 1 1]) (by simp [results, Tryz.results52, go_sem, zr, r0, r1, r2, r3, r4]) rfl ?_
    exact rnot_fin (r := ⟨o, fl, t, n, (A, m, c)⟩) hbw (by omega) (by omega) HT5.out.off HQ3.out HK3.out HO3.out HS3.out HPS.out (by omega)
set_option maxRecDepth 100000 in
set_option maxHeartbeats 4000000 in
theorem rterm_opn (s : List UInt8) (b d a src dst : Nat) (R : QRes) (hF : d < 8 → ∀ W : World, RPsr W b s dst (d + 1) 0 0 → Calls Tryz.prog 17 #[.pointer (some ⟨b, 0, none⟩)] W (REnd W b s (d + 1) R)) (hPL : R.place s ≤ s.length) (w : World) (hs : s.length ≤ 1000) (ha : a ≤ s.length) (hd : d ≤ 8) (hx : peekQ s a = ⟨src, dst, .opn⟩) (hp : RPsr w b s a d 0 0) :
    Calls Tryz.prog 52 #[.pointer (some ⟨b, 0, none⟩)] w (REnd w b s d (if 8 ≤ d then .err 10 src else R.then fun q b => if shutB (peekQ s b).tok then .ok q (peekQ s b).dst else .err 2 (peekQ s b).src)) := by
  have hbw := heap_lt hp
  have hin := peek_in s a ha
  rw [hx] at hin
  dsimp only at hin
  have hpx := hp.below ((Below.refl w.heap.size w).alloc (Nat.le_refl _) qObj) hbw
  obtain ⟨p0, p1, p2, p3, p4, pf, plt⟩ := hpx.cells
  have hpk := rpeek_any s a b (w.alloc qObj) (by omega) ha p0 p1
  rw [hx] at hpk
  have HPK := Lib.hid hpk
  have HP := Lib.hid hp
  have HFF := Lib.hid hF
  clear hF
  obtain ⟨RS, hRS⟩ : ∃ RS : QRes, (if 8 ≤ d then .err 10 src else R.then fun q b => if shutB (peekQ s b).tok then .ok q (peekQ s b).dst else .err 2 (peekQ s b).src) = RS := ⟨_, rfl⟩
  rw [hRS]
  have HRS := Lib.hid hRS
  clear hRS
  have HPLC := Lib.hid hPL
  clear hPL
  clear hp hpx hpk hx p0 p1 p2 p3 p4 pf plt
  go_enter Tryz.func52, Tryz.ntmps52
  go_wp2_with fail
  refine HPK.out.mono ?_
  rintro e w1 ⟨rfl, hb1⟩
  simp only [rpcV]
  have HT1 := Lib.hid (rts_new HP.out hb1)
  have hne : ¬ b = w.heap.size := by omega
  have hne2 : ¬ w.heap.size = b := by omega
  have z1 : w.heap.size < w1.heap.size := Nat.lt_of_lt_of_le (by simp) hb1.size
  have hb1x : b < w1.heap.size := by omega
  clear hb1
  obtain ⟨p0, p1, p2, p3, p4, pf, plt⟩ := HT1.out.psr.cells
  replace p3 : _ = some (Value.int .i64 0) := p3
  obtain ⟨r0, r1, r2, r3, r4, rf⟩ := HT1.out.res.cells
  by_cases hc : 8 ≤ d
  · have hr : RS = .err 10 src := HRS.out.symm.trans (if_pos hc)
    clear HRS
    subst hr
    have hdi : (decide (8 ≤ (d : Int))) = true := by simp; omega
    have hdj : 8 ≤ (d : Int) := by omega
    have HT2 := Lib.hid (show RTS w ((w1.setCell ⟨b, 1, none⟩ (.int .i64 (dst : Nat))).alloc (.cells #[.int .i64 (src : Nat), .int .i64 (dst : Nat), .int .i64 1, .string ⟨#[]⟩, .bool false, .string ⟨#[]⟩, .bool false] 51)) b s dst d from (HT1.out.at_ dst).below ((Below.refl _ _).alloc (Nat.le_refl _) _))
    have HFL := Lib.hid (rfail_new s b dst d d 10 src ((w1.setCell ⟨b, 1, none⟩ (.int .i64 (dst : Nat))).alloc (.cells #[.int .i64 (src : Nat), .int .i64 (dst : Nat), .int .i64 1, .string ⟨#[]⟩, .bool false, .string ⟨#[]⟩, .bool false] 51)) (by omega) (by decide) (Nat.le_refl _) (by omega) HT2.out.psr)
    go_wp2_with fail
    refine HFL.out.mono ?_
    rintro e w9 ⟨rfl, ho9, hst9⟩
    have HZ9 : QzAt w9 w.heap.size := (ho9.block _ (heap_lt HT2.out.res) hne2).trans HT2.out.res
    have HO9 := Lib.hid (HT2.out.off.trans ho9)
    have HS9 := Lib.hid (hst9 noQ)
    clear ho9 hst9
    clear r0 r1 r2 r3 r4 rf p0 p1 p2 p3 p4 pf plt
    obtain ⟨r0, r1, r2, r3, r4, rf⟩ := HZ9.cells
    clear HZ9
    rw [noRaw_val]
    go_wp2
    refine bodyPost_ret (v := .agg #[.int .i64 0, .int .i64 0, .string ⟨#[]⟩, .int .i64 0, .slice none 0 0]) (by simp [results, Tryz.results52, go_sem, r0, r1, r2, r3, r4]) rfl ?_
    exact rterm_end (r := noRaw) (q := noQ) (B := w.heap.size + 1) hbw HO9.out (Nat.lt_succ_self _) (QDeep.leaf _ _ 0 0 [] 0) noRaw_ok HS9.out (put5_off w9 w.heap.size _ _ _ _ _)
  · have hr := HRS.out.symm.trans (if_neg hc)
    clear HRS
    subst hr
    have hdi : (decide (8 ≤ (d : Int))) = false := by simp; omega
    have hdj : ¬ 8 ≤ (d : Int) := by omega
    have h4 : RTS w ((w1.setCell ⟨b, 1, none⟩ (.int .i64 (dst : Nat))).setCell ⟨b, 2, none⟩ (.int .i64 ((d + 1 : Nat) : Int))) b s dst (d + 1) := (HT1.out.at_ dst).deep (d + 1)
    rw [show (((d + 1 : Nat)) : Int) = (d : Int) + 1 by omega] at h4
    obtain ⟨V, hV⟩ : ∃ V, ((w1.setCell ⟨b, 1, none⟩ (.int .i64 (dst : Nat))).setCell ⟨b, 2, none⟩ (.int .i64 ((d : Int) + 1))) = V := ⟨_, rfl⟩
    have hVs : V.heap.size = w1.heap.size := by rw [← hV]; simp
    have HV := Lib.hid hV
    rw [hV] at h4
    have hal : Below V.heap.size V ((V.alloc (.cells #[.int .i64 (src : Nat), .int .i64 (dst : Nat), .int .i64 1, .string ⟨#[]⟩, .bool false, .string ⟨#[]⟩, .bool false] 51)).alloc qObj) := ((Below.refl _ _).alloc (Nat.le_refl _) _).alloc (by simp) _
    have HT5 := Lib.hid (h4.below hal)
    have hzq : QzAt ((V.alloc (.cells #[.int .i64 (src : Nat), .int .i64 (dst : Nat), .int .i64 1, .string ⟨#[]⟩, .bool false, .string ⟨#[]⟩, .bool false] 51)).alloc qObj) (w1.heap.size + 1) := by
      have h := qzAt_new (V.alloc (.cells #[.int .i64 (src : Nat), .int .i64 (dst : Nat), .int .i64 1, .string ⟨#[]⟩, .bool false, .string ⟨#[]⟩, .bool false] 51))
      rw [World.size_alloc, hVs] at h
      exact h
    have hW2s : ((V.alloc (.cells #[.int .i64 (src : Nat), .int .i64 (dst : Nat), .int .i64 1, .string ⟨#[]⟩, .bool false, .string ⟨#[]⟩, .bool false] 51)).alloc qObj).heap.size = w1.heap.size + 2 := by simp [hVs]
    obtain ⟨W2, hW2⟩ : ∃ W2, (V.alloc (.cells #[.int .i64 (src : Nat), .int .i64 (dst : Nat), .int .i64 1, .string ⟨#[]⟩, .bool false, .string ⟨#[]⟩, .bool false] 51)).alloc qObj = W2 := ⟨_, rfl⟩
    have HW2 := Lib.hid hW2
    rw [hW2] at HT5 hzq hW2s
    have HCC := Lib.hid (HFF.out (by omega) W2 HT5.out.psr)
    have HZQ := Lib.hid hzq
    clear h4 hV hW2 hal hzq
    go_wp2_with fail
    rw [HV.out, HW2.out]
    refine HCC.out.mono ?_
    rintro e w3 ⟨⟨o, fl, t, n, A, m, c⟩, q, rfl, hq, hk, ho, hst⟩
    have HQ3 := Lib.hid hq
    have HK3 := Lib.hid hk
    have HO3 := Lib.hid ho
    have HS3 := Lib.hid hst
    have HZ3 := Lib.hid (show QzAt w3 w.heap.size from (ho.block _ (heap_lt HT5.out.res) hne2).trans HT5.out.res)
    have HZQ3 := Lib.hid (show QzAt w3 (w1.heap.size + 1) from (ho.block _ (heap_lt HZQ.out) (by omega)).trans HZQ.out)
    have hs3 : w1.heap.size + 2 ≤ w3.heap.size := by have := ho.size; omega
    obtain ⟨d', er', pl', hd0, hd', hps, her⟩ := hst.psr
    have HPS := Lib.hid hps
    have HER := Lib.hid her
    clear hq hk ho hst her
    clear r0 r1 r2 r3 r4 rf p0 p1 p2 p3 p4 pf plt
    obtain ⟨p0, p1, p2, p3, p4, pf, plt⟩ := HPS.out.cells
    obtain ⟨r0, r1, r2, r3, r4, rf⟩ := HZ3.out.cells
    obtain ⟨q0, q1, q2, q3, q4, qf⟩ := HZQ3.out.cells
    have hg1 : ¬ w1.heap.size + 1 = b := by omega
    have hg2 : ¬ b = w1.heap.size + 1 := by omega
    have hg3 : ¬ w1.heap.size + 1 = w.heap.size := by omega
    have hg4 : ¬ w.heap.size = w1.heap.size + 1 := by omega
    have zq : w1.heap.size + 1 < w3.heap.size := by omega
    have zr : w.heap.size < w3.heap.size := by omega
    clear hps
    unfold RawQ.val
    dsimp only
    have hplace : R.place s ≤ s.length := HPLC.out
    have o1 := put5_off w3 (w1.heap.size + 1) (.int .i64 o) (.int .i64 fl) (.string (ba t)) (.int .i64 n) (.slice A m c)
    obtain ⟨X1, hX1⟩ : ∃ X1, ((((w3.setCell ⟨w1.heap.size + 1, 0, none⟩ (.int .i64 o)).setCell ⟨w1.heap.size + 1, 1, none⟩ (.int .i64 fl)).setCell ⟨w1.heap.size + 1, 2, none⟩ (.string (ba t))).setCell ⟨w1.heap.size + 1, 3, none⟩ (.int .i64 n)).setCell ⟨w1.heap.size + 1, 4, none⟩ (.slice A m c) = X1 := ⟨_, rfl⟩
    have hX1s : X1.heap.size = w3.heap.size := by rw [← hX1]; simp
    have hbx : X1.heap[w1.heap.size + 1]? = some (.cells #[.int .i64 o, .int .i64 fl, .string (ba t), .int .i64 n, .slice A m c] 25 (0, 0)) := by rw [← hX1]; exact set_heap (set_heap (set_heap (set_heap (set_heap HZQ3.out 0 _) 1 _) 2 _) 3 _) 4 _
    have HX1 := Lib.hid hX1
    rw [hX1] at o1
    have hps1 : RPsr X1 b s (R.place s) d' er' pl' := HPS.out.off o1 (by omega)
    have hst1 : RSt X1 b s (d + 1) q R := HS3.out.off o1 (by omega)
    have hq1 : QOwn X1 W2.heap.size ⟨o, fl, t, n, (A, m, c)⟩ q := HQ3.out.off o1 (fun k e => by omega) (Nat.le_refl _)
    have hz1 : QzAt X1 w.heap.size := (o1.block _ (heap_lt HZ3.out) (by omega)).trans HZ3.out
    have ho1 : Off (fun k => k = b) w X1 := (HT5.out.off.trans HO3.out).andThen o1 (fun i hi e => by omega)
    clear r0 r1 r2 r3 r4 rf p0 p1 p2 p3 p4 pf plt
    obtain ⟨p0, p1, p2, p3, p4, pf, plt⟩ := hps1.cells
    have HPK2 := Lib.hid (rpeek_any s (R.place s) b X1 (by omega) hplace p0 p1)
    have HBX := Lib.hid (show KBox X1 (w1.heap.size + 1) ⟨o, fl, t, n, (A, m, c)⟩ from hbx)
    have HPS1 := Lib.hid hps1
    have HST1 := Lib.hid hst1
    have HQ1 := Lib.hid hq1
    have HZ1 := Lib.hid hz1
    have HO1 := Lib.hid ho1
    clear hX1 o1 hps1 hst1 hq1 hz1 ho1 hbx p0 p1 p2 p3 p4 pf plt
    obtain ⟨r0, r1, r2, r3, r4, rf⟩ := HZ3.out.cells
    go_wp2_with fail
    rw [HX1.out]
    refine HPK2.out.mono ?_
    rintro e w4 ⟨rfl, hb4⟩
    clear r0 r1 r2 r3 r4 rf q0 q1 q2 q3 q4 qf
    have HPS4 := Lib.hid (HPS1.out.below hb4 (heap_lt HPS1.out))
    have HST4 := Lib.hid (HST1.out.off (F := fun _ => False) (Off.of_below hb4 (fun k h1 h2 => by omega)) (fun x => x))
    have HQ4 := Lib.hid (HQ1.out.below hb4)
    have HZ4 := Lib.hid (HZ1.out.below hb4 (heap_lt HZ1.out))
    have HO4 := Lib.hid (HO1.out.andThen (Off.of_below (F := fun _ => False) hb4 (fun k h1 h2 => by omega)) (fun _ _ x => x.elim))
    have HBX4 := Lib.hid (show KBox w4 (w1.heap.size + 1) ⟨o, fl, t, n, (A, m, c)⟩ from (hb4.block _ (heap_lt HBX.out)).trans HBX.out)
    have hs4 := hb4.size
    obtain ⟨y, hy⟩ : ∃ y, peekQ s (R.place s) = y := ⟨_, rfl⟩
    have HY := Lib.hid hy
    rw [hy]
    obtain ⟨yi, yj, yk, yT, yq, yU, yz, hyv, hysh, hyns, hyi⟩ := rpcV_shut s.length y
    rw [hyv]
    have HYS := Lib.hid hysh
    have HYN := Lib.hid hyns
    subst hyi
    clear hb4 hy hyv hysh hyns
    obtain ⟨p0, p1, p2, p3, p4, pf, plt⟩ := HPS4.out.cells
    obtain ⟨r0, r1, r2, r3, r4, rf⟩ := HZ4.out.cells
    obtain ⟨q0, q1, q2, q3, q4, ql⟩ := HBX4.out.cells
    have zr4 : w.heap.size < w4.heap.size := by omega
    by_cases hsh : shutB y.tok = true
    · obtain ⟨hk2, hj2⟩ := HYS.out hsh
      have hR : ∃ q0 a, R = .ok q0 a := by
        cases hc : R with
        | ok q0 a => exact ⟨q0, a, rfl⟩
        | err e1 a1 =>
          have h1 := HY.out
          rw [hc] at h1
          have h2 : shutB (peekQ s s.length).tok = true := by rw [show peekQ s s.length = y from h1]; exact hsh
          rw [peek_end s] at h2
          cases h2
      obtain ⟨q9, a9, rfl⟩ := hR
      obtain ⟨hq9, hps9⟩ := HST4.out
      subst hq9
      clear p0 p1 p2 p3 p4 pf plt
      obtain ⟨p0, p1, p2, p3, p4, pf, plt⟩ := hps9.cells
      have HP9 := Lib.hid hps9
      have hk3 : yk = 2 := by simpa using hk2
      subst hk3
      subst hj2
      have HSH := Lib.hid hsh
      clear hk2 hsh hps9
      go_wp2
      refine bodyPost_ret (v := .agg #[.int .i64 o, .int .i64 fl, .string (ba t), .int .i64 n, .slice A m c]) (by simp [results, Tryz.results52, go_sem, zr4, r0, r1, r2, r3, r4]) rfl ?_
      have hres : ((QRes.ok q a9).then fun q b => if shutB (peekQ s b).tok = true then QRes.ok q (peekQ s b).dst else QRes.err 2 (peekQ s b).src) = .ok q y.dst := by
        show (if shutB (peekQ s a9).tok = true then QRes.ok q (peekQ s a9).dst else _) = _
        rw [show peekQ s a9 = y from HY.out, if_pos HSH.out]
      rw [hres]
      exact rbra_fin (r := ⟨o, fl, t, n, (A, m, c)⟩) (B := W2.heap.size) hbw (by omega) HO4.out HQ4.out HK3.out HP9.out y.dst
    · have hsh : shutB y.tok = false := by simpa using hsh
      have hk2 := HYN.out hsh
      have hk3 : ¬ yk = 2 := by simpa using hk2
      have HRR := Lib.hid (show ∃ e9 a9, (R.then fun q b => if shutB (peekQ s b).tok = true then QRes.ok q (peekQ s b).dst else QRes.err 2 (peekQ s b).src) = .err e9 a9 ∧ (R.then fun _ _ => .err 2 y.src) = .err e9 a9 from by
        cases hc : R with
        | ok q0 a1 =>
          refine ⟨2, y.src, ?_, rfl⟩
          have h1 := HY.out
          rw [hc] at h1
          show (if shutB (peekQ s a1).tok = true then _ else QRes.err 2 (peekQ s a1).src) = _
          rw [show peekQ s a1 = y from h1, hsh]
          rfl
        | err e1 a1 => exact ⟨e1, a1, rfl, rfl⟩)
      obtain ⟨P2, hP2⟩ : ∃ P : Obj, .cells #[.int .i64 (y.src : Nat), .int .i64 yj, .int .i64 yk, .string yT, .bool yq, .string yU, .bool yz] 51 = P := ⟨_, rfl⟩
      have HP2 := Lib.hid hP2
      have ha4 : Below w4.heap.size w4 (w4.alloc P2) := (Below.refl _ _).alloc (Nat.le_refl _) _
      have HFL := Lib.hid (rfail_st s b (d + 1) 2 y.src (w4.alloc P2) q R (by omega) (by decide) (by omega) (HST4.out.off (F := fun _ => False) (Off.of_below ha4 (fun k h1 h2 => by omega)) (fun x => x)))
      have HZ5 := Lib.hid (HZ4.out.below ha4 (heap_lt HZ4.out))
      have HO5 := Lib.hid (HO4.out.andThen (Off.of_below (F := fun _ => False) ha4 (fun k h1 h2 => by omega)) (fun _ _ x => x.elim))
      clear hP2 ha4 hsh hk2
      go_wp2_with fail
      rw [HP2.out]
      refine HFL.out.mono ?_
      rintro e w9 ⟨rfl, ho9, hst9⟩
      have HZ9 : QzAt w9 w.heap.size := (ho9.block _ (heap_lt HZ5.out) hne2).trans HZ5.out
      have HO9 := Lib.hid (HO5.out.trans ho9)
      have HS9 := Lib.hid (hst9 noQ)
      clear ho9 hst9 q0 q1 q2 q3 q4 ql
      clear r0 r1 r2 r3 r4 rf p0 p1 p2 p3 p4 pf plt
      obtain ⟨r0, r1, r2, r3, r4, rf⟩ := HZ9.cells
      clear HZ9
      rw [noRaw_val]
      go_wp2
      refine bodyPost_ret (v := .agg #[.int .i64 0, .int .i64 0, .string ⟨#[]⟩, .int .i64 0, .slice none 0 0]) (by simp [results, Tryz.results52, go_sem, r0, r1, r2, r3, r4]) rfl ?_
      obtain ⟨e9, a9, hr1, hr2⟩ := HRR.out
      have hs9 := HS9.out
      rw [hr2] at hs9
      rw [hr1]
      exact rterm_end (r := noRaw) (q := noQ) (B := w.heap.size + 1) hbw HO9.out (Nat.lt_succ_self _) (QDeep.leaf _ _ 0 0 [] 0) noRaw_ok hs9.less (put5_off w9 w.heap.size _ _ _ _ _)
set_option maxRecDepth 100000 in
set_option maxHeartbeats 4000000 in
theorem rterm_quo (s : List UInt8) (b d a src dst : Nat) (t raw : List UInt8) (hl : t.length ≤ 1000000) (w : World) (hs : s.length ≤ 1000) (ha : a ≤ s.length) (hd : d ≤ 8) (hx : peekQ s a = ⟨src, dst, (.quo t 0 raw)⟩) (hp : RPsr w b s a d 0 0) :
    Calls Tryz.prog 52 #[.pointer (some ⟨b, 0, none⟩)] w (REnd w b s d (leafQ (textQ t 0) ⟨src, dst, .quo t 0 raw⟩)) := by
  have hbw := heap_lt hp
  have hin := peek_in s a ha
  rw [hx] at hin
  dsimp only at hin
  have hpx := hp.below ((Below.refl w.heap.size w).alloc (Nat.le_refl _) qObj) hbw
  obtain ⟨p0, p1, p2, p3, p4, pf, plt⟩ := hpx.cells
  have hpk := rpeek_any s a b (w.alloc qObj) (by omega) ha p0 p1
  rw [hx] at hpk
  have HPK := Lib.hid hpk
  have HP := Lib.hid hp
  obtain ⟨O, hO⟩ : ∃ O, textQ t 0 = O := ⟨_, rfl⟩
  rw [hO]
  have HOO := Lib.hid hO
  clear hO
  obtain ⟨RS, hRS⟩ : ∃ RS : QRes, leafQ O ⟨src, dst, .quo t 0 raw⟩ = RS := ⟨_, rfl⟩
  rw [hRS]
  have HRS := Lib.hid hRS
  clear hRS
  clear hp hpx hpk hx p0 p1 p2 p3 p4 pf plt
  go_enter Tryz.func52, Tryz.ntmps52
  go_wp2_with fail
  refine HPK.out.mono ?_
  rintro e w1 ⟨rfl, hb1⟩
  simp only [rpcV]
  have HT1 := Lib.hid (rts_new HP.out hb1)
  have hne : ¬ b = w.heap.size := by omega
  have hne2 : ¬ w.heap.size = b := by omega
  have z1 : w.heap.size < w1.heap.size := Nat.lt_of_lt_of_le (by simp) hb1.size
  have hb1x : b < w1.heap.size := by omega
  clear hb1
  obtain ⟨p0, p1, p2, p3, p4, pf, plt⟩ := HT1.out.psr.cells
  replace p3 : _ = some (Value.int .i64 0) := p3
  obtain ⟨r0, r1, r2, r3, r4, rf⟩ := HT1.out.res.cells
  have HT2 := Lib.hid (show RTS w ((w1.setCell ⟨b, 1, none⟩ (.int .i64 (dst : Nat))).alloc (.cells #[.int .i64 (src : Nat), .int .i64 (dst : Nat), .int .i64 4, .string (ba t), .bool false, .string ⟨#[]⟩, .bool false] 51)) b s dst d from (HT1.out.at_ dst).below ((Below.refl _ _).alloc (Nat.le_refl _) _))
  have hlf := rmeans_quo src dst t [] false false ((w1.setCell ⟨b, 1, none⟩ (.int .i64 (dst : Nat))).alloc (.cells #[.int .i64 (src : Nat), .int .i64 (dst : Nat), .int .i64 4, .string (ba t), .bool false, .string ⟨#[]⟩, .bool false] 51)) hl
  rw [HOO.out] at hlf
  have HLF := Lib.hid hlf
  clear hlf
  go_wp2_with fail
  refine HLF.out.mono ?_
  rintro e w4 ⟨op, fld, y, m, rfl, hb4, hq, hk⟩
  have HQ := Lib.hid hq
  have HK := Lib.hid hk
  have HT6 := Lib.hid (HT2.out.below hb4)
  have hbx := (MapKept.heap_alloc (w1.setCell ⟨b, 1, none⟩ (.int .i64 (dst : Nat))) (.cells #[.int .i64 (src : Nat), .int .i64 (dst : Nat), .int .i64 4, .string (ba t), .bool false, .string ⟨#[]⟩, .bool false] 51)).1
  rw [World.size_setCell] at hbx
  have hbx4 : w4.heap[w1.heap.size]? = _ := (hb4.block w1.heap.size (by simp)).trans hbx
  have x0 : w4.cell? ⟨w1.heap.size, 0, none⟩ = some (.int .i64 (src : Nat)) := by rw [Lib.cell_of_heap hbx4]; rfl
  have zx : w1.heap.size < w4.heap.size := heap_lt hbx4
  clear hb4 hq hk hbx hbx4
  clear r0 r1 r2 r3 r4 rf p0 p1 p2 p3 p4 pf plt
  obtain ⟨p0, p1, p2, p3, p4, pf, plt⟩ := HT6.out.psr.cells
  replace p3 : _ = some (Value.int .i64 0) := p3
  obtain ⟨r0, r1, r2, r3, r4, rf⟩ := HT6.out.res.cells
  cases O with
  | some q =>
    simp only [Option.isSome_some]
    have HRR := Lib.hid (show RS = .ok q dst from HRS.out.symm)
    have z4 := heap_lt HT6.out.res
    go_wp2
    refine bodyPost_ret (v := .agg #[.int .i64 op, .int .i64 fld, .string (ba y), .int .i64 m, .slice none 0 0]) (by simp [results, Tryz.results52, go_sem, z4, r0, r1, r2, r3, r4]) rfl ?_
    rw [HRR.out, HQ.out q rfl]
    exact rterm_end (r := ⟨op, fld, y, m, (none, 0, 0)⟩) (B := w.heap.size + 1) hbw HT6.out.off (Nat.lt_succ_self _) (QDeep.leaf _ _ op fld y m) HK.out ⟨rfl, HT6.out.psr⟩ ((put5_off w4 w.heap.size _ _ _ _ _).alloc _)
  | none =>
    simp only [Option.isSome_none]
    have hrr : RS = .err 2 src := HRS.out.symm
    subst hrr
    clear HRS
    have HT7 := Lib.hid (show RTS w (w4.alloc (.cells #[.int .i64 op, .int .i64 fld, .string (ba y), .int .i64 m, .slice none 0 0] 25)) b s dst d from HT6.out.below ((Below.refl _ _).alloc (Nat.le_refl _) _))
    have HFL := Lib.hid (rfail_new s b dst d d 2 src (w4.alloc (.cells #[.int .i64 op, .int .i64 fld, .string (ba y), .int .i64 m, .slice none 0 0] 25)) (by omega) (by decide) (Nat.le_refl _) (by omega) HT7.out.psr)
    go_wp2_with fail
    refine HFL.out.mono ?_
    rintro e w9 ⟨rfl, ho9, hst9⟩
    have HZ9 : QzAt w9 w.heap.size := (ho9.block _ (heap_lt HT7.out.res) hne2).trans HT7.out.res
    have HO9 := Lib.hid (HT7.out.off.trans ho9)
    have HS9 := Lib.hid (hst9 noQ)
    clear ho9 hst9
    clear r0 r1 r2 r3 r4 rf p0 p1 p2 p3 p4 pf plt
    obtain ⟨r0, r1, r2, r3, r4, rf⟩ := HZ9.cells
    clear HZ9
    rw [noRaw_val]
    go_wp2
    refine bodyPost_ret (v := .agg #[.int .i64 0, .int .i64 0, .string ⟨#[]⟩, .int .i64 0, .slice none 0 0]) (by simp [results, Tryz.results52, go_sem, r0, r1, r2, r3, r4]) rfl ?_
    exact rterm_end (r := noRaw) (q := noQ) (B := w.heap.size + 1) hbw HO9.out (Nat.lt_succ_self _) (QDeep.leaf _ _ 0 0 [] 0) noRaw_ok HS9.out (put5_off w9 w.heap.size _ _ _ _ _)
set_option maxRecDepth 100000 in
set_option maxHeartbeats 4000000 in
theorem rterm_fld (s : List UInt8) (b d a src dst : Nat) (t raw : List UInt8) (f : Nat) (hl : t.length ≤ 1000000) (h58 : 58 ∈ raw) (hff : fieldQ (nameQ raw) = f + 1) (hlr : raw.length ≤ 1000000) (n1 : raw ≠ wAND) (n2 : raw ≠ wOR) (n3 : raw ≠ wNOT) (w : World) (hs : s.length ≤ 1000) (ha : a ≤ s.length) (hd : d ≤ 8) (hx : peekQ s a = ⟨src, dst, (.quo t (f + 1) raw)⟩) (hp : RPsr w b s a d 0 0) :
    Calls Tryz.prog 52 #[.pointer (some ⟨b, 0, none⟩)] w (REnd w b s d (leafQ (textQ t (f + 1)) ⟨src, dst, .quo t (f + 1) raw⟩)) := by
  have hbw := heap_lt hp
  have hin := peek_in s a ha
  rw [hx] at hin
  dsimp only at hin
  have hpx := hp.below ((Below.refl w.heap.size w).alloc (Nat.le_refl _) qObj) hbw
  obtain ⟨p0, p1, p2, p3, p4, pf, plt⟩ := hpx.cells
  have hpk := rpeek_any s a b (w.alloc qObj) (by omega) ha p0 p1
  rw [hx] at hpk
  have HPK := Lib.hid hpk
  have HP := Lib.hid hp
  obtain ⟨O, hO⟩ : ∃ O, textQ t (f + 1) = O := ⟨_, rfl⟩
  rw [hO]
  have HOO := Lib.hid hO
  clear hO
  obtain ⟨RS, hRS⟩ : ∃ RS : QRes, leafQ O ⟨src, dst, .quo t (f + 1) raw⟩ = RS := ⟨_, rfl⟩
  rw [hRS]
  have HRS := Lib.hid hRS
  clear hRS
  have m0 : ((ba raw).toList == (⟨#[65, 78, 68]⟩ : ByteArray).toList) = false ∧ ((⟨#[65, 78, 68]⟩ : ByteArray).toList == (ba raw).toList) = false ∧ ¬ (ba raw).toList = (⟨#[65, 78, 68]⟩ : ByteArray).toList ∧ ¬ (⟨#[65, 78, 68]⟩ : ByteArray).toList = (ba raw).toList ∧ decide (ba raw = (⟨#[65, 78, 68]⟩ : ByteArray)) = false ∧ ¬ ba raw = (⟨#[65, 78, 68]⟩ : ByteArray) := str_not n1
  have t0 : (⟨#[65, 78, 68]⟩ : ByteArray).toList = [65, 78, 68] := ba_toList [65, 78, 68]
  have mm0 := m0
  rw [t0] at m0
  obtain ⟨u01, u02, u03, u04, u05, u06⟩ := m0
  obtain ⟨v01, v02, v03, v04, -, -⟩ := mm0
  have m1 : ((ba raw).toList == (⟨#[79, 82]⟩ : ByteArray).toList) = false ∧ ((⟨#[79, 82]⟩ : ByteArray).toList == (ba raw).toList) = false ∧ ¬ (ba raw).toList = (⟨#[79, 82]⟩ : ByteArray).toList ∧ ¬ (⟨#[79, 82]⟩ : ByteArray).toList = (ba raw).toList ∧ decide (ba raw = (⟨#[79, 82]⟩ : ByteArray)) = false ∧ ¬ ba raw = (⟨#[79, 82]⟩ : ByteArray) := str_not n2
  have t1 : (⟨#[79, 82]⟩ : ByteArray).toList = [79, 82] := ba_toList [79, 82]
  have mm1 := m1
  rw [t1] at m1
  obtain ⟨u11, u12, u13, u14, u15, u16⟩ := m1
  obtain ⟨v11, v12, v13, v14, -, -⟩ := mm1
  have m2 : ((ba raw).toList == (⟨#[78, 79, 84]⟩ : ByteArray).toList) = false ∧ ((⟨#[78, 79, 84]⟩ : ByteArray).toList == (ba raw).toList) = false ∧ ¬ (ba raw).toList = (⟨#[78, 79, 84]⟩ : ByteArray).toList ∧ ¬ (⟨#[78, 79, 84]⟩ : ByteArray).toList = (ba raw).toList ∧ decide (ba raw = (⟨#[78, 79, 84]⟩ : ByteArray)) = false ∧ ¬ ba raw = (⟨#[78, 79, 84]⟩ : ByteArray) := str_not n3
  have t2 : (⟨#[78, 79, 84]⟩ : ByteArray).toList = [78, 79, 84] := ba_toList [78, 79, 84]
  have mm2 := m2
  rw [t2] at m2
  obtain ⟨u21, u22, u23, u24, u25, u26⟩ := m2
  obtain ⟨v21, v22, v23, v24, -, -⟩ := mm2
  clear n1 n2 n3 t0 t1 t2
  clear hp hpx hpk hx p0 p1 p2 p3 p4 pf plt
  go_enter Tryz.func52, Tryz.ntmps52
  go_wp2_with fail
  refine HPK.out.mono ?_
  rintro e w1 ⟨rfl, hb1⟩
  simp only [rpcV]
  have HT1 := Lib.hid (rts_new HP.out hb1)
  have hne : ¬ b = w.heap.size := by omega
  have hne2 : ¬ w.heap.size = b := by omega
  have z1 : w.heap.size < w1.heap.size := Nat.lt_of_lt_of_le (by simp) hb1.size
  have hb1x : b < w1.heap.size := by omega
  clear hb1
  obtain ⟨p0, p1, p2, p3, p4, pf, plt⟩ := HT1.out.psr.cells
  replace p3 : _ = some (Value.int .i64 0) := p3
  obtain ⟨r0, r1, r2, r3, r4, rf⟩ := HT1.out.res.cells
  have HT2 := Lib.hid (show RTS w ((w1.setCell ⟨b, 1, none⟩ (.int .i64 (dst : Nat))).alloc (.cells #[.int .i64 (src : Nat), .int .i64 (dst : Nat), .int .i64 5, .string (ba raw), .bool true, .string (ba t), .bool false] 51)) b s dst d from (HT1.out.at_ dst).below ((Below.refl _ _).alloc (Nat.le_refl _) _))
  have hlf := rmeans_field src dst raw t false f h58 hff hl ((w1.setCell ⟨b, 1, none⟩ (.int .i64 (dst : Nat))).alloc (.cells #[.int .i64 (src : Nat), .int .i64 (dst : Nat), .int .i64 5, .string (ba raw), .bool true, .string (ba t), .bool false] 51)) hlr
  rw [HOO.out] at hlf
  have HLF := Lib.hid hlf
  clear hlf
  go_wp2_with fail
  refine HLF.out.mono ?_
  rintro e w4 ⟨op, fld, y, m, rfl, hb4, hq, hk⟩
  have HQ := Lib.hid hq
  have HK := Lib.hid hk
  have HT6 := Lib.hid (HT2.out.below hb4)
  have hbx := (MapKept.heap_alloc (w1.setCell ⟨b, 1, none⟩ (.int .i64 (dst : Nat))) (.cells #[.int .i64 (src : Nat), .int .i64 (dst : Nat), .int .i64 5, .string (ba raw), .bool true, .string (ba t), .bool false] 51)).1
  rw [World.size_setCell] at hbx
  have hbx4 : w4.heap[w1.heap.size]? = _ := (hb4.block w1.heap.size (by simp)).trans hbx
  have x0 : w4.cell? ⟨w1.heap.size, 0, none⟩ = some (.int .i64 (src : Nat)) := by rw [Lib.cell_of_heap hbx4]; rfl
  have zx : w1.heap.size < w4.heap.size := heap_lt hbx4
  clear hb4 hq hk hbx hbx4
  clear r0 r1 r2 r3 r4 rf p0 p1 p2 p3 p4 pf plt
  obtain ⟨p0, p1, p2, p3, p4, pf, plt⟩ := HT6.out.psr.cells
  replace p3 : _ = some (Value.int .i64 0) := p3
  obtain ⟨r0, r1, r2, r3, r4, rf⟩ := HT6.out.res.cells
  cases O with
  | some q =>
    simp only [Option.isSome_some]
    have HRR := Lib.hid (show RS = .ok q dst from HRS.out.symm)
    have z4 := heap_lt HT6.out.res
    go_wp2
    refine bodyPost_ret (v := .agg #[.int .i64 op, .int .i64 fld, .string (ba y), .int .i64 m, .slice none 0 0]) (by simp [results, Tryz.results52, go_sem, z4, r0, r1, r2, r3, r4]) rfl ?_
    rw [HRR.out, HQ.out q rfl]
    exact rterm_end (r := ⟨op, fld, y, m, (none, 0, 0)⟩) (B := w.heap.size + 1) hbw HT6.out.off (Nat.lt_succ_self _) (QDeep.leaf _ _ op fld y m) HK.out ⟨rfl, HT6.out.psr⟩ ((put5_off w4 w.heap.size _ _ _ _ _).alloc _)
  | none =>
    simp only [Option.isSome_none]
    have hrr : RS = .err 2 src := HRS.out.symm
    subst hrr
    clear HRS
    have HT7 := Lib.hid (show RTS w (w4.alloc (.cells #[.int .i64 op, .int .i64 fld, .string (ba y), .int .i64 m, .slice none 0 0] 25)) b s dst d from HT6.out.below ((Below.refl _ _).alloc (Nat.le_refl _) _))
    have HFL := Lib.hid (rfail_new s b dst d d 2 src (w4.alloc (.cells #[.int .i64 op, .int .i64 fld, .string (ba y), .int .i64 m, .slice none 0 0] 25)) (by omega) (by decide) (Nat.le_refl _) (by omega) HT7.out.psr)
    go_wp2_with fail
    refine HFL.out.mono ?_
    rintro e w9 ⟨rfl, ho9, hst9⟩
    have HZ9 : QzAt w9 w.heap.size := (ho9.block _ (heap_lt HT7.out.res) hne2).trans HT7.out.res
    have HO9 := Lib.hid (HT7.out.off.trans ho9)
    have HS9 := Lib.hid (hst9 noQ)
    clear ho9 hst9
    clear r0 r1 r2 r3 r4 rf p0 p1 p2 p3 p4 pf plt
    obtain ⟨r0, r1, r2, r3, r4, rf⟩ := HZ9.cells
    clear HZ9
    rw [noRaw_val]
    go_wp2
    refine bodyPost_ret (v := .agg #[.int .i64 0, .int .i64 0, .string ⟨#[]⟩, .int .i64 0, .slice none 0 0]) (by simp [results, Tryz.results52, go_sem, r0, r1, r2, r3, r4]) rfl ?_
    exact rterm_end (r := noRaw) (q := noQ) (B := w.heap.size + 1) hbw HO9.out (Nat.lt_succ_self _) (QDeep.leaf _ _ 0 0 [] 0) noRaw_ok HS9.out (put5_off w9 w.heap.size _ _ _ _ _)
set_option maxRecDepth 100000 in
set_option maxHeartbeats 4000000 in
theorem rterm_bare (s : List UInt8) (b d a src dst : Nat) (t : List UInt8) (hl : t.length ≤ 1000000) (n1 : t ≠ wAND) (n2 : t ≠ wOR) (n3 : t ≠ wNOT) (w : World) (hs : s.length ≤ 1000) (ha : a ≤ s.length) (hd : d ≤ 8) (hx : peekQ s a = ⟨src, dst, (.bare t)⟩) (hp : RPsr w b s a d 0 0) :
    Calls Tryz.prog 52 #[.pointer (some ⟨b, 0, none⟩)] w (REnd w b s d (leafQ (meansQ t) ⟨src, dst, .bare t⟩)) := by
  have hbw := heap_lt hp
  have hin := peek_in s a ha
  rw [hx] at hin
  dsimp only at hin
  have hpx := hp.below ((Below.refl w.heap.size w).alloc (Nat.le_refl _) qObj) hbw
  obtain ⟨p0, p1, p2, p3, p4, pf, plt⟩ := hpx.cells
  have hpk := rpeek_any s a b (w.alloc qObj) (by omega) ha p0 p1
  rw [hx] at hpk
  have HPK := Lib.hid hpk
  have HP := Lib.hid hp
  obtain ⟨O, hO⟩ : ∃ O, meansQ t = O := ⟨_, rfl⟩
  rw [hO]
  have HOO := Lib.hid hO
  clear hO
  obtain ⟨RS, hRS⟩ : ∃ RS : QRes, leafQ O ⟨src, dst, .bare t⟩ = RS := ⟨_, rfl⟩
  rw [hRS]
  have HRS := Lib.hid hRS
  clear hRS
  have m0 : ((ba t).toList == (⟨#[65, 78, 68]⟩ : ByteArray).toList) = false ∧ ((⟨#[65, 78, 68]⟩ : ByteArray).toList == (ba t).toList) = false ∧ ¬ (ba t).toList = (⟨#[65, 78, 68]⟩ : ByteArray).toList ∧ ¬ (⟨#[65, 78, 68]⟩ : ByteArray).toList = (ba t).toList ∧ decide (ba t = (⟨#[65, 78, 68]⟩ : ByteArray)) = false ∧ ¬ ba t = (⟨#[65, 78, 68]⟩ : ByteArray) := str_not n1
  have t0 : (⟨#[65, 78, 68]⟩ : ByteArray).toList = [65, 78, 68] := ba_toList [65, 78, 68]
  have mm0 := m0
  rw [t0] at m0
  obtain ⟨u01, u02, u03, u04, u05, u06⟩ := m0
  obtain ⟨v01, v02, v03, v04, -, -⟩ := mm0
  have m1 : ((ba t).toList == (⟨#[79, 82]⟩ : ByteArray).toList) = false ∧ ((⟨#[79, 82]⟩ : ByteArray).toList == (ba t).toList) = false ∧ ¬ (ba t).toList = (⟨#[79, 82]⟩ : ByteArray).toList ∧ ¬ (⟨#[79, 82]⟩ : ByteArray).toList = (ba t).toList ∧ decide (ba t = (⟨#[79, 82]⟩ : ByteArray)) = false ∧ ¬ ba t = (⟨#[79, 82]⟩ : ByteArray) := str_not n2
  have t1 : (⟨#[79, 82]⟩ : ByteArray).toList = [79, 82] := ba_toList [79, 82]
  have mm1 := m1
  rw [t1] at m1
  obtain ⟨u11, u12, u13, u14, u15, u16⟩ := m1
  obtain ⟨v11, v12, v13, v14, -, -⟩ := mm1
  have m2 : ((ba t).toList == (⟨#[78, 79, 84]⟩ : ByteArray).toList) = false ∧ ((⟨#[78, 79, 84]⟩ : ByteArray).toList == (ba t).toList) = false ∧ ¬ (ba t).toList = (⟨#[78, 79, 84]⟩ : ByteArray).toList ∧ ¬ (⟨#[78, 79, 84]⟩ : ByteArray).toList = (ba t).toList ∧ decide (ba t = (⟨#[78, 79, 84]⟩ : ByteArray)) = false ∧ ¬ ba t = (⟨#[78, 79, 84]⟩ : ByteArray) := str_not n3
  have t2 : (⟨#[78, 79, 84]⟩ : ByteArray).toList = [78, 79, 84] := ba_toList [78, 79, 84]
  have mm2 := m2
  rw [t2] at m2
  obtain ⟨u21, u22, u23, u24, u25, u26⟩ := m2
  obtain ⟨v21, v22, v23, v24, -, -⟩ := mm2
  clear n1 n2 n3 t0 t1 t2
  clear hp hpx hpk hx p0 p1 p2 p3 p4 pf plt
  go_enter Tryz.func52, Tryz.ntmps52
  go_wp2_with fail
  refine HPK.out.mono ?_
  rintro e w1 ⟨rfl, hb1⟩
  simp only [rpcV]
  have HT1 := Lib.hid (rts_new HP.out hb1)
  have hne : ¬ b = w.heap.size := by omega
  have hne2 : ¬ w.heap.size = b := by omega
  have z1 : w.heap.size < w1.heap.size := Nat.lt_of_lt_of_le (by simp) hb1.size
  have hb1x : b < w1.heap.size := by omega
  clear hb1
  obtain ⟨p0, p1, p2, p3, p4, pf, plt⟩ := HT1.out.psr.cells
  replace p3 : _ = some (Value.int .i64 0) := p3
  obtain ⟨r0, r1, r2, r3, r4, rf⟩ := HT1.out.res.cells
  have HT2 := Lib.hid (show RTS w ((w1.setCell ⟨b, 1, none⟩ (.int .i64 (dst : Nat))).alloc (.cells #[.int .i64 (src : Nat), .int .i64 (dst : Nat), .int .i64 5, .string (ba t), .bool false, .string ⟨#[]⟩, .bool false] 51)) b s dst d from (HT1.out.at_ dst).below ((Below.refl _ _).alloc (Nat.le_refl _) _))
  have hlf := rmeans_bare src dst t [] false ((w1.setCell ⟨b, 1, none⟩ (.int .i64 (dst : Nat))).alloc (.cells #[.int .i64 (src : Nat), .int .i64 (dst : Nat), .int .i64 5, .string (ba t), .bool false, .string ⟨#[]⟩, .bool false] 51)) hl
  rw [HOO.out] at hlf
  have HLF := Lib.hid hlf
  clear hlf
  go_wp2_with fail
  refine HLF.out.mono ?_
  rintro e w4 ⟨op, fld, y, m, rfl, hb4, hq, hk⟩
  have HQ := Lib.hid hq
  have HK := Lib.hid hk
  have HT6 := Lib.hid (HT2.out.below hb4)
  have hbx := (MapKept.heap_alloc (w1.setCell ⟨b, 1, none⟩ (.int .i64 (dst : Nat))) (.cells #[.int .i64 (src : Nat), .int .i64 (dst : Nat), .int .i64 5, .string (ba t), .bool false, .string ⟨#[]⟩, .bool false] 51)).1
  rw [World.size_setCell] at hbx
  have hbx4 : w4.heap[w1.heap.size]? = _ := (hb4.block w1.heap.size (by simp)).trans hbx
  have x0 : w4.cell? ⟨w1.heap.size, 0, none⟩ = some (.int .i64 (src : Nat)) := by rw [Lib.cell_of_heap hbx4]; rfl
  have zx : w1.heap.size < w4.heap.size := heap_lt hbx4
  clear hb4 hq hk hbx hbx4
  clear r0 r1 r2 r3 r4 rf p0 p1 p2 p3 p4 pf plt
  obtain ⟨p0, p1, p2, p3, p4, pf, plt⟩ := HT6.out.psr.cells
  replace p3 : _ = some (Value.int .i64 0) := p3
  obtain ⟨r0, r1, r2, r3, r4, rf⟩ := HT6.out.res.cells
  cases O with
  | some q =>
    simp only [Option.isSome_some]
    have HRR := Lib.hid (show RS = .ok q dst from HRS.out.symm)
    have z4 := heap_lt HT6.out.res
    go_wp2
    refine bodyPost_ret (v := .agg #[.int .i64 op, .int .i64 fld, .string (ba y), .int .i64 m, .slice none 0 0]) (by simp [results, Tryz.results52, go_sem, z4, r0, r1, r2, r3, r4]) rfl ?_
    rw [HRR.out, HQ.out q rfl]
    exact rterm_end (r := ⟨op, fld, y, m, (none, 0, 0)⟩) (B := w.heap.size + 1) hbw HT6.out.off (Nat.lt_succ_self _) (QDeep.leaf _ _ op fld y m) HK.out ⟨rfl, HT6.out.psr⟩ ((put5_off w4 w.heap.size _ _ _ _ _).alloc _)
  | none =>
    simp only [Option.isSome_none]
    have hrr : RS = .err 2 src := HRS.out.symm
    subst hrr
    clear HRS
    have HT7 := Lib.hid (show RTS w (w4.alloc (.cells #[.int .i64 op, .int .i64 fld, .string (ba y), .int .i64 m, .slice none 0 0] 25)) b s dst d from HT6.out.below ((Below.refl _ _).alloc (Nat.le_refl _) _))
    have HFL := Lib.hid (rfail_new s b dst d d 2 src (w4.alloc (.cells #[.int .i64 op, .int .i64 fld, .string (ba y), .int .i64 m, .slice none 0 0] 25)) (by omega) (by decide) (Nat.le_refl _) (by omega) HT7.out.psr)
    go_wp2_with fail
    refine HFL.out.mono ?_
    rintro e w9 ⟨rfl, ho9, hst9⟩
    have HZ9 : QzAt w9 w.heap.size := (ho9.block _ (heap_lt HT7.out.res) hne2).trans HT7.out.res
    have HO9 := Lib.hid (HT7.out.off.trans ho9)
    have HS9 := Lib.hid (hst9 noQ)
    clear ho9 hst9
    clear r0 r1 r2 r3 r4 rf p0 p1 p2 p3 p4 pf plt
    obtain ⟨r0, r1, r2, r3, r4, rf⟩ := HZ9.cells
    clear HZ9
    rw [noRaw_val]
    go_wp2
    refine bodyPost_ret (v := .agg #[.int .i64 0, .int .i64 0, .string ⟨#[]⟩, .int .i64 0, .slice none 0 0]) (by simp [results, Tryz.results52, go_sem, r0, r1, r2, r3, r4]) rfl ?_
    exact rterm_end (r := noRaw) (q := noQ) (B := w.heap.size + 1) hbw HO9.out (Nat.lt_succ_self _) (QDeep.leaf _ _ 0 0 [] 0) noRaw_ok HS9.out (put5_off w9 w.heap.size _ _ _ _ _)
end Go.Proofs.YtomcdhmcjndioaaGreatDoor
end
