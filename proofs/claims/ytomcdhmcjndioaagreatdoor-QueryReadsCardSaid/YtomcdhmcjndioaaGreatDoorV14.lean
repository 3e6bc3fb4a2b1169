/- Layer 37: the contract of named (printed by gen_qnamed.py). Layer 5: the reference's Rune. Layer 5, plain: the length of a unit, as the reference finds it. Layer 5: the reference's length. Layer 5: the reference's Units. -/
import Derived.Test.YtomcdhmcjndioaaGreatDoorV11
import Derived.Test.YtomcdhmcjndioaaGreatDoorV13
import Derived.Test.YtomcdhmcjndioaaGreatDoorV06
import Derived.Test.YtomcdhmcjndioaaGreatDoorV02
import Derived.Test.YtomcdhmcjndioaaGreatDoorV04
import Derived.Test.YtomcdhmcjndioaaGreatDoorV01
import Derived.Test.YtomcdhmcjndioaaGreatDoorV09
section
namespace Go.Proofs.YtomcdhmcjndioaaGreatDoor
open Go.RowKit
set_option linter.unusedVariables false

/-- A named value handed back. -/
def KnPost (w : World) (o : Option Qry) (e : Ending) (w' : World) : Prop :=
  ∃ (op fld : Int) (t : List UInt8) (n : Int), e = .returned (.tuple #[.agg #[.int .i64 op, .int .i64 fld, .string (ba t), .int .i64 n, .slice none 0 0], .bool o.isSome, .bool true]) ∧ Below w.heap.size w w' ∧ (∀ q, o = some q → q = .mk op fld t n []) ∧ RawOk ⟨op, fld, t, n, (none, 0, 0)⟩
theorem kn_end {w w' : World} {o : Option Qry} {op fld n : Int} {t : List UInt8} {s : ByteArray} {b : Bool} (ho : ∀ q, o = some q → q = .mk op fld t n []) (hb : b = o.isSome) (hs : s = ba t) (hw : Below w.heap.size w w') (hk : RawOk ⟨op, fld, t, n, (none, 0, 0)⟩) :
    KnPost w o (.returned (.tuple #[.agg #[.int .i64 op, .int .i64 fld, .string s, .int .i64 n, .slice none 0 0], .bool b, .bool true])) w' := by
  subst hb hs
  exact ⟨op, fld, t, n, rfl, hw, ho, hk⟩
theorem times_bdP (l : List UInt8) : timesQ l = 1024 ∨ timesQ l = 1048576 ∨ timesQ l = 1 := by
  unfold timesQ
  repeat' split
  all_goals simp
theorem size_bdP {l : List UInt8} {x : Int} (h : sizeQ l = some x) : 0 ≤ x ∧ x ≤ 1099511627776 := by
  rw [sizeQ_eq] at h
  obtain ⟨v, hv, rfl⟩ := Option.map_eq_some_iff.1 h
  have h1 := decP_bd hv
  rcases times_bdP l with h2 | h2 | h2 <;> rw [h2] <;> omega
set_option maxRecDepth 100000 in
set_option maxHeartbeats 4000000 in
theorem qnamed_is (v : List UInt8) (w : World) (hl : v.length ≤ 1000000) (hT : QTabs w) :
    Calls Tryz.prog 97 #[.string ⟨#[105, 115]⟩, .string (ba v)] w (KnPost w (if flagQ (smallP v) then some (.mk 5 0 (smallP v) 0 []) else none)) := by
  have HT := Lib.hid hT
  clear hT
  have HSM := Lib.hid (fun W => qsmall_any v W (by omega))
  unfold StrB at HSM
  have HFL := Lib.hid (fun W => qflag_any (smallP v) W)
  obtain ⟨t, ht⟩ : ∃ t, smallP v = t := ⟨_, rfl⟩
  simp only [ht] at HSM HFL
  rw [ht]
  clear ht
  obtain ⟨b, hb⟩ : ∃ b, flagQ t = b := ⟨_, rfl⟩
  simp only [hb] at HFL
  rw [hb]
  clear hb
  obtain ⟨O, hO⟩ : ∃ O : Option Qry, (if b then some (.mk 5 0 t 0 []) else none) = O := ⟨_, rfl⟩
  have HO := Lib.hid hO
  rw [hO]
  clear hO
  have HZ0 := Lib.hid (qzAt_new w)
  go_enter Tryz.func97, Tryz.ntmps97
  go_wp2_with fail
  refine (HSM.out _).mono ?_
  rintro e w1 ⟨rfl, hb1⟩
  have HB1 := Lib.hid ((qz_below w).trans (hb1.mono (by simp)))
  have HZ1 := Lib.hid (HZ0.out.below hb1 (by simp))
  have z1 : w.heap.size < w1.heap.size := by have := hb1.size; simp at this; omega
  clear hb1
  go_wp2_with fail
  refine (HSM.out w1).mono ?_
  rintro e w2 ⟨rfl, hb2⟩
  have HB2 := Lib.hid (HB1.out.trans (hb2.mono HB1.out.size))
  have HZ2 := Lib.hid (HZ1.out.below hb2 z1)
  have z2 : w.heap.size < w2.heap.size := by have := hb2.size; omega
  clear hb2
  go_wp2_with fail
  refine (HFL.out w2).mono ?_
  rintro e w3 ⟨rfl, hb3⟩
  have HB3 := Lib.hid (HB2.out.trans (hb3.mono HB2.out.size))
  have HZ3 := Lib.hid (HZ2.out.below hb3 z2)
  have z3 : w.heap.size < w3.heap.size := by have := hb3.size; omega
  clear hb3
  obtain ⟨r0, r1, r2, r3, r4, rf⟩ := HZ3.out.cells
  go_wp2
  refine bodyPost_ret (v := .tuple #[.agg #[.int .i64 5, .int .i64 0, .string (ba t), .int .i64 0, .slice none 0 0], .bool b, .bool true]) (by simp [results, Tryz.results97, go_sem, r0, r1, r2, r3, r4]) rfl ?_
  refine kn_end (fun q h => ?_) ?_ rfl ?_ (leaf_ok (by omega) (by omega) (by omega))
  · rw [← HO.out] at h
    cases b with
    | true => injection h with h; exact h.symm
    | false => cases h
  · rw [← HO.out]
    cases b <;> rfl
  repeat (first | (with_reducible exact HB3.out) | refine Below.setCell ?_ (by simp) _)
/-- Block g holds a query that has its op alone. -/
def QoAt (w : World) (g : Nat) (op : Int) : Prop := w.heap[g]? = some (.cells #[.int .i64 op, .int .i64 0, .string ⟨#[]⟩, .int .i64 0, .slice none 0 0] 25 (0, 0))
theorem QoAt.below {w w' : World} {g B : Nat} {op : Int} (h : QoAt w g op) (hb : Below B w w') (hg : g < B) : QoAt w' g op := (hb.block g hg).trans h
theorem QoAt.cells {w : World} {g : Nat} {op : Int} (h : QoAt w g op) : w.cell? ⟨g, 0, none⟩ = some (.int .i64 op) ∧ w.cell? ⟨g, 1, none⟩ = some (.int .i64 0) ∧ w.cell? ⟨g, 2, none⟩ = some (.string ⟨#[]⟩) ∧ w.cell? ⟨g, 3, none⟩ = some (.int .i64 0) ∧ w.cell? ⟨g, 4, none⟩ = some (.slice none 0 0) ∧ ∀ i, w.frozen? ⟨g, i, none⟩ = false := by
  unfold QoAt at h
  refine ⟨?_, ?_, ?_, ?_, ?_, fun i => Lib.frozen_of_heap h i⟩ <;> (rw [Lib.cell_of_heap h]; rfl)
theorem qoAt_new (w : World) (op : Int) : QoAt (w.alloc (.cells #[.int .i64 op, .int .i64 0, .string ⟨#[]⟩, .int .i64 0, .slice none 0 0] 25)) w.heap.size op := (MapKept.heap_alloc w _).1
theorem qo_below (w : World) (op : Int) : Below w.heap.size w (w.alloc (.cells #[.int .i64 op, .int .i64 0, .string ⟨#[]⟩, .int .i64 0, .slice none 0 0] 25)) := (Below.refl _ _).alloc (Nat.le_refl _) _
set_option maxRecDepth 100000 in
set_option maxHeartbeats 4000000 in
theorem qnamed_in (v : List UInt8) (w : World) (hl : v.length ≤ 1000000) (hT : QTabs w) :
    Calls Tryz.prog 97 #[.string ⟨#[105, 110]⟩, .string (ba v)] w (KnPost w ((decP v 1 1099511627776).map fun n => .mk 6 0 [] n [])) := by
  have HT := Lib.hid hT
  clear hT
  have HPA := Lib.hid (fun W hW => num_parse v 1 1099511627776 W (by omega) (by omega) (by omega) hW)
  have HBD := Lib.hid (fun x (h : decP v 1 1099511627776 = some x) => (show 0 ≤ x ∧ x ≤ 1099511627776 from by have := decP_bd h; omega))
  unfold ParsePost at HPA
  obtain ⟨p, hp⟩ : ∃ p, (decP v 1 1099511627776) = p := ⟨_, rfl⟩
  simp only [hp] at HPA HBD
  rw [hp]
  clear hp
  cases p with
  | none =>
    have HZ0 := Lib.hid (qoAt_new w 6)
    go_enter Tryz.func97, Tryz.ntmps97
    go_wp2_with fail
    refine (HPA.out _ (HT.out.below (qo_below w 6))).mono ?_
    rintro e w1 ⟨rfl, hb1⟩
    have HB1 := Lib.hid ((qo_below w 6).trans (hb1.mono (by simp)))
    have HZ1 := Lib.hid (HZ0.out.below hb1 (by simp))
    have z1 : w.heap.size < w1.heap.size := by have := hb1.size; simp at this; omega
    clear hb1
    obtain ⟨r0, r1, r2, r3, r4, rf⟩ := HZ1.out.cells
    go_wp2
    refine bodyPost_ret (v := .tuple #[.agg #[.int .i64 6, .int .i64 0, .string ⟨#[]⟩, .int .i64 0, .slice none 0 0], .bool false, .bool true]) (by simp [results, Tryz.results97, go_sem, r0, r1, r2, r3, r4]) rfl ?_
    refine kn_end (t := []) (fun q h => by cases h) rfl rfl ?_ (leaf_ok (by omega) (by omega) (by omega))
    repeat (first | (with_reducible exact HB1.out) | refine Below.setCell ?_ (by simp) _)
  | some x =>
    obtain ⟨x0, x1⟩ := HBD.out x rfl
    have HZ0 := Lib.hid (qoAt_new w 6)
    go_enter Tryz.func97, Tryz.ntmps97
    go_wp2_with fail
    refine (HPA.out _ (HT.out.below (qo_below w 6))).mono ?_
    rintro e w1 ⟨rfl, hb1⟩
    have HB1 := Lib.hid ((qo_below w 6).trans (hb1.mono (by simp)))
    have HZ1 := Lib.hid (HZ0.out.below hb1 (by simp))
    have z1 : w.heap.size < w1.heap.size := by have := hb1.size; simp at this; omega
    clear hb1
    obtain ⟨r0, r1, r2, r3, r4, rf⟩ := HZ1.out.cells
    go_wp2
    refine bodyPost_ret (v := .tuple #[.agg #[.int .i64 6, .int .i64 0, .string ⟨#[]⟩, .int .i64 x, .slice none 0 0], .bool true, .bool true]) (by simp [results, Tryz.results97, go_sem, r0, r1, r2, r3, r4]) rfl ?_
    refine kn_end (t := []) (fun q h => by injection h with h; exact h.symm) rfl rfl ?_ (leaf_ok (by omega) (by omega) (by omega))
    repeat (first | (with_reducible exact HB1.out) | refine Below.setCell ?_ (by simp) _)
set_option maxRecDepth 100000 in
set_option maxHeartbeats 4000000 in
theorem qnamed_larger (v : List UInt8) (w : World) (hl : v.length ≤ 1000000) (hT : QTabs w) :
    Calls Tryz.prog 97 #[.string ⟨#[108, 97, 114, 103, 101, 114]⟩, .string (ba v)] w (KnPost w ((sizeQ v).map fun n => .mk 9 0 [] n [])) := by
  have HT := Lib.hid hT
  clear hT
  have HPA := Lib.hid (fun W hW => qsize_any v W hl hW)
  have HBD := Lib.hid (fun x (h : sizeQ v = some x) => size_bdP h)
  unfold ParsePost at HPA
  obtain ⟨p, hp⟩ : ∃ p, (sizeQ v) = p := ⟨_, rfl⟩
  simp only [hp] at HPA HBD
  rw [hp]
  clear hp
  cases p with
  | none =>
    have HZ0 := Lib.hid (qoAt_new w 9)
    go_enter Tryz.func97, Tryz.ntmps97
    go_wp2_with fail
    refine (HPA.out _ (HT.out.below (qo_below w 9))).mono ?_
    rintro e w1 ⟨rfl, hb1⟩
    have HB1 := Lib.hid ((qo_below w 9).trans (hb1.mono (by simp)))
    have HZ1 := Lib.hid (HZ0.out.below hb1 (by simp))
    have z1 : w.heap.size < w1.heap.size := by have := hb1.size; simp at this; omega
    clear hb1
    obtain ⟨r0, r1, r2, r3, r4, rf⟩ := HZ1.out.cells
    go_wp2
    refine bodyPost_ret (v := .tuple #[.agg #[.int .i64 9, .int .i64 0, .string ⟨#[]⟩, .int .i64 0, .slice none 0 0], .bool false, .bool true]) (by simp [results, Tryz.results97, go_sem, r0, r1, r2, r3, r4]) rfl ?_
    refine kn_end (t := []) (fun q h => by cases h) rfl rfl ?_ (leaf_ok (by omega) (by omega) (by omega))
    repeat (first | (with_reducible exact HB1.out) | refine Below.setCell ?_ (by simp) _)
  | some x =>
    obtain ⟨x0, x1⟩ := HBD.out x rfl
    have HZ0 := Lib.hid (qoAt_new w 9)
    go_enter Tryz.func97, Tryz.ntmps97
    go_wp2_with fail
    refine (HPA.out _ (HT.out.below (qo_below w 9))).mono ?_
    rintro e w1 ⟨rfl, hb1⟩
    have HB1 := Lib.hid ((qo_below w 9).trans (hb1.mono (by simp)))
    have HZ1 := Lib.hid (HZ0.out.below hb1 (by simp))
    have z1 : w.heap.size < w1.heap.size := by have := hb1.size; simp at this; omega
    clear hb1
    obtain ⟨r0, r1, r2, r3, r4, rf⟩ := HZ1.out.cells
    go_wp2
    refine bodyPost_ret (v := .tuple #[.agg #[.int .i64 9, .int .i64 0, .string ⟨#[]⟩, .int .i64 x, .slice none 0 0], .bool true, .bool true]) (by simp [results, Tryz.results97, go_sem, r0, r1, r2, r3, r4]) rfl ?_
    refine kn_end (t := []) (fun q h => by injection h with h; exact h.symm) rfl rfl ?_ (leaf_ok (by omega) (by omega) (by omega))
    repeat (first | (with_reducible exact HB1.out) | refine Below.setCell ?_ (by simp) _)
set_option maxRecDepth 100000 in
set_option maxHeartbeats 4000000 in
theorem qnamed_smaller (v : List UInt8) (w : World) (hl : v.length ≤ 1000000) (hT : QTabs w) :
    Calls Tryz.prog 97 #[.string ⟨#[115, 109, 97, 108, 108, 101, 114]⟩, .string (ba v)] w (KnPost w ((sizeQ v).map fun n => .mk 10 0 [] n [])) := by
  have HT := Lib.hid hT
  clear hT
  have HPA := Lib.hid (fun W hW => qsize_any v W hl hW)
  have HBD := Lib.hid (fun x (h : sizeQ v = some x) => size_bdP h)
  unfold ParsePost at HPA
  obtain ⟨p, hp⟩ : ∃ p, (sizeQ v) = p := ⟨_, rfl⟩
  simp only [hp] at HPA HBD
  rw [hp]
  clear hp
  cases p with
  | none =>
    have HZ0 := Lib.hid (qoAt_new w 10)
    go_enter Tryz.func97, Tryz.ntmps97
    go_wp2_with fail
    refine (HPA.out _ (HT.out.below (qo_below w 10))).mono ?_
    rintro e w1 ⟨rfl, hb1⟩
    have HB1 := Lib.hid ((qo_below w 10).trans (hb1.mono (by simp)))
    have HZ1 := Lib.hid (HZ0.out.below hb1 (by simp))
    have z1 : w.heap.size < w1.heap.size := by have := hb1.size; simp at this; omega
    clear hb1
    obtain ⟨r0, r1, r2, r3, r4, rf⟩ := HZ1.out.cells
    go_wp2
    refine bodyPost_ret (v := .tuple #[.agg #[.int .i64 10, .int .i64 0, .string ⟨#[]⟩, .int .i64 0, .slice none 0 0], .bool false, .bool true]) (by simp [results, Tryz.results97, go_sem, r0, r1, r2, r3, r4]) rfl ?_
    refine kn_end (t := []) (fun q h => by cases h) rfl rfl ?_ (leaf_ok (by omega) (by omega) (by omega))
    repeat (first | (with_reducible exact HB1.out) | refine Below.setCell ?_ (by simp) _)
  | some x =>
    obtain ⟨x0, x1⟩ := HBD.out x rfl
    have HZ0 := Lib.hid (qoAt_new w 10)
    go_enter Tryz.func97, Tryz.ntmps97
    go_wp2_with fail
    refine (HPA.out _ (HT.out.below (qo_below w 10))).mono ?_
    rintro e w1 ⟨rfl, hb1⟩
    have HB1 := Lib.hid ((qo_below w 10).trans (hb1.mono (by simp)))
    have HZ1 := Lib.hid (HZ0.out.below hb1 (by simp))
    have z1 : w.heap.size < w1.heap.size := by have := hb1.size; simp at this; omega
    clear hb1
    obtain ⟨r0, r1, r2, r3, r4, rf⟩ := HZ1.out.cells
    go_wp2
    refine bodyPost_ret (v := .tuple #[.agg #[.int .i64 10, .int .i64 0, .string ⟨#[]⟩, .int .i64 x, .slice none 0 0], .bool true, .bool true]) (by simp [results, Tryz.results97, go_sem, r0, r1, r2, r3, r4]) rfl ?_
    refine kn_end (t := []) (fun q h => by injection h with h; exact h.symm) rfl rfl ?_ (leaf_ok (by omega) (by omega) (by omega))
    repeat (first | (with_reducible exact HB1.out) | refine Below.setCell ?_ (by simp) _)
set_option maxRecDepth 100000 in
set_option maxHeartbeats 4000000 in
theorem qnamed_before (v : List UInt8) (w : World) (hl : v.length ≤ 1000000) (hT : QTabs w) :
    Calls Tryz.prog 97 #[.string ⟨#[98, 101, 102, 111, 114, 101]⟩, .string (ba v)] w (KnPost w ((momentQ v).map fun n => .mk 7 0 [] n [])) := by
  have HT := Lib.hid hT
  clear hT
  have HMO := Lib.hid (fun W hW => qmoment_any v W hl hW)
  obtain ⟨p, hp⟩ : ∃ p, momentQ v = p := ⟨_, rfl⟩
  simp only [hp] at HMO
  rw [hp]
  clear hp
  have HZ0 := Lib.hid (qoAt_new w 7)
  go_enter Tryz.func97, Tryz.ntmps97
  go_wp2_with fail
  refine (HMO.out _ (HT.out.below (qo_below w 7))).mono ?_
  rintro e w1 ⟨x, rfl, hb1, hx, x0, x1⟩
  have HX := Lib.hid hx
  clear hx
  have HB1 := Lib.hid ((qo_below w 7).trans (hb1.mono (by simp)))
  have HZ1 := Lib.hid (HZ0.out.below hb1 (by simp))
  have z1 : w.heap.size < w1.heap.size := by have := hb1.size; simp at this; omega
  clear hb1
  obtain ⟨r0, r1, r2, r3, r4, rf⟩ := HZ1.out.cells
  go_wp2
  refine bodyPost_ret (v := .tuple #[.agg #[.int .i64 7, .int .i64 0, .string ⟨#[]⟩, .int .i64 x, .slice none 0 0], .bool p.isSome, .bool true]) (by simp [results, Tryz.results97, go_sem, r0, r1, r2, r3, r4]) rfl ?_
  refine kn_end (t := []) (fun q h => ?_) (by cases p <;> rfl) rfl ?_ (leaf_ok (by omega) (by omega) (by omega))
  · obtain ⟨n, hn, rfl⟩ := Option.map_eq_some_iff.1 h
    rw [HX.out n hn]
  repeat (first | (with_reducible exact HB1.out) | refine Below.setCell ?_ (by simp) _)
set_option maxRecDepth 100000 in
set_option maxHeartbeats 4000000 in
theorem qnamed_after (v : List UInt8) (w : World) (hl : v.length ≤ 1000000) (hT : QTabs w) :
    Calls Tryz.prog 97 #[.string ⟨#[97, 102, 116, 101, 114]⟩, .string (ba v)] w (KnPost w ((momentQ v).map fun n => .mk 8 0 [] n [])) := by
  have HT := Lib.hid hT
  clear hT
  have HMO := Lib.hid (fun W hW => qmoment_any v W hl hW)
  obtain ⟨p, hp⟩ : ∃ p, momentQ v = p := ⟨_, rfl⟩
  simp only [hp] at HMO
  rw [hp]
  clear hp
  have HZ0 := Lib.hid (qoAt_new w 8)
  go_enter Tryz.func97, Tryz.ntmps97
  go_wp2_with fail
  refine (HMO.out _ (HT.out.below (qo_below w 8))).mono ?_
  rintro e w1 ⟨x, rfl, hb1, hx, x0, x1⟩
  have HX := Lib.hid hx
  clear hx
  have HB1 := Lib.hid ((qo_below w 8).trans (hb1.mono (by simp)))
  have HZ1 := Lib.hid (HZ0.out.below hb1 (by simp))
  have z1 : w.heap.size < w1.heap.size := by have := hb1.size; simp at this; omega
  clear hb1
  obtain ⟨r0, r1, r2, r3, r4, rf⟩ := HZ1.out.cells
  go_wp2
  refine bodyPost_ret (v := .tuple #[.agg #[.int .i64 8, .int .i64 0, .string ⟨#[]⟩, .int .i64 x, .slice none 0 0], .bool p.isSome, .bool true]) (by simp [results, Tryz.results97, go_sem, r0, r1, r2, r3, r4]) rfl ?_
  refine kn_end (t := []) (fun q h => ?_) (by cases p <;> rfl) rfl ?_ (leaf_ok (by omega) (by omega) (by omega))
  · obtain ⟨n, hn, rfl⟩ := Option.map_eq_some_iff.1 h
    rw [HX.out n hn]
  repeat (first | (with_reducible exact HB1.out) | refine Below.setCell ?_ (by simp) _)
set_option maxRecDepth 100000 in
set_option maxHeartbeats 4000000 in
theorem qnamed_no (S v : List UInt8) (w : World) (his : S ≠ [105, 115]) (hin : S ≠ [105, 110]) (hlarger : S ≠ [108, 97, 114, 103, 101, 114]) (hsmaller : S ≠ [115, 109, 97, 108, 108, 101, 114]) (hbefore : S ≠ [98, 101, 102, 111, 114, 101]) (hafter : S ≠ [97, 102, 116, 101, 114]) : Calls Tryz.prog 97 #[.string (ba S), .string (ba v)] w fun e w' => e = .returned (.tuple #[.agg #[.int .i64 0, .int .i64 0, .string ⟨#[]⟩, .int .i64 0, .slice none 0 0], .bool false, .bool false]) ∧ Below w.heap.size w w' := by
  have gis0 : ([105, 115] : List UInt8) ≠ (ba S).toList := fun h => his (by rw [ba_toList] at h; exact h.symm)
  have gis1 : (⟨#[105, 115]⟩ : ByteArray).toList ≠ (ba S).toList := by rw [show (⟨#[105, 115]⟩ : ByteArray).toList = [105, 115] from ba_toList [105, 115]]; exact gis0
  have gis2 : ¬ (⟨#[105, 115]⟩ : ByteArray).toList = (ba S).toList := gis1
  have gis3 : ¬ (⟨#[105, 115]⟩ : ByteArray) = ba S := fun h => gis1 (by rw [h])
  have gis4 : (([105, 115] : List UInt8) == (ba S).toList) = false := beq_eq_false_iff_ne.2 gis0
  have gis5 : ((ba S).toList == ([105, 115] : List UInt8)) = false := beq_eq_false_iff_ne.2 (Ne.symm gis0)
  have gis6 : decide ((⟨#[105, 115]⟩ : ByteArray) = ba S) = false := decide_eq_false gis3
  have gis7 : decide (ba S = (⟨#[105, 115]⟩ : ByteArray)) = false := decide_eq_false (Ne.symm gis3)
  have gis8 : ¬ ba S = (⟨#[105, 115]⟩ : ByteArray) := Ne.symm gis3
  have gin0 : ([105, 110] : List UInt8) ≠ (ba S).toList := fun h => hin (by rw [ba_toList] at h; exact h.symm)
  have gin1 : (⟨#[105, 110]⟩ : ByteArray).toList ≠ (ba S).toList := by rw [show (⟨#[105, 110]⟩ : ByteArray).toList = [105, 110] from ba_toList [105, 110]]; exact gin0
  have gin2 : ¬ (⟨#[105, 110]⟩ : ByteArray).toList = (ba S).toList := gin1
  have gin3 : ¬ (⟨#[105, 110]⟩ : ByteArray) = ba S := fun h => gin1 (by rw [h])
  have gin4 : (([105, 110] : List UInt8) == (ba S).toList) = false := beq_eq_false_iff_ne.2 gin0
  have gin5 : ((ba S).toList == ([105, 110] : List UInt8)) = false := beq_eq_false_iff_ne.2 (Ne.symm gin0)
  have gin6 : decide ((⟨#[105, 110]⟩ : ByteArray) = ba S) = false := decide_eq_false gin3
  have gin7 : decide (ba S = (⟨#[105, 110]⟩ : ByteArray)) = false := decide_eq_false (Ne.symm gin3)
  have gin8 : ¬ ba S = (⟨#[105, 110]⟩ : ByteArray) := Ne.symm gin3
  have glarger0 : ([108, 97, 114, 103, 101, 114] : List UInt8) ≠ (ba S).toList := fun h => hlarger (by rw [ba_toList] at h; exact h.symm)
  have glarger1 : (⟨#[108, 97, 114, 103, 101, 114]⟩ : ByteArray).toList ≠ (ba S).toList := by rw [show (⟨#[108, 97, 114, 103, 101, 114]⟩ : ByteArray).toList = [108, 97, 114, 103, 101, 114] from ba_toList [108, 97, 114, 103, 101, 114]]; exact glarger0
  have glarger2 : ¬ (⟨#[108, 97, 114, 103, 101, 114]⟩ : ByteArray).toList = (ba S).toList := glarger1
  have glarger3 : ¬ (⟨#[108, 97, 114, 103, 101, 114]⟩ : ByteArray) = ba S := fun h => glarger1 (by rw [h])
  have glarger4 : (([108, 97, 114, 103, 101, 114] : List UInt8) == (ba S).toList) = false := beq_eq_false_iff_ne.2 glarger0
  have glarger5 : ((ba S).toList == ([108, 97, 114, 103, 101, 114] : List UInt8)) = false := beq_eq_false_iff_ne.2 (Ne.symm glarger0)
  have glarger6 : decide ((⟨#[108, 97, 114, 103, 101, 114]⟩ : ByteArray) = ba S) = false := decide_eq_false glarger3
  have glarger7 : decide (ba S = (⟨#[108, 97, 114, 103, 101, 114]⟩ : ByteArray)) = false := decide_eq_false (Ne.symm glarger3)
  have glarger8 : ¬ ba S = (⟨#[108, 97, 114, 103, 101, 114]⟩ : ByteArray) := Ne.symm glarger3
  have gsmaller0 : ([115, 109, 97, 108, 108, 101, 114] : List UInt8) ≠ (ba S).toList := fun h => hsmaller (by rw [ba_toList] at h; exact h.symm)
  have gsmaller1 : (⟨#[115, 109, 97, 108, 108, 101, 114]⟩ : ByteArray).toList ≠ (ba S).toList := by rw [show (⟨#[115, 109, 97, 108, 108, 101, 114]⟩ : ByteArray).toList = [115, 109, 97, 108, 108, 101, 114] from ba_toList [115, 109, 97, 108, 108, 101, 114]]; exact gsmaller0
  have gsmaller2 : ¬ (⟨#[115, 109, 97, 108, 108, 101, 114]⟩ : ByteArray).toList = (ba S).toList := gsmaller1
  have gsmaller3 : ¬ (⟨#[115, 109, 97, 108, 108, 101, 114]⟩ : ByteArray) = ba S := fun h => gsmaller1 (by rw [h])
  have gsmaller4 : (([115, 109, 97, 108, 108, 101, 114] : List UInt8) == (ba S).toList) = false := beq_eq_false_iff_ne.2 gsmaller0
  have gsmaller5 : ((ba S).toList == ([115, 109, 97, 108, 108, 101, 114] : List UInt8)) = false := beq_eq_false_iff_ne.2 (Ne.symm gsmaller0)
  have gsmaller6 : decide ((⟨#[115, 109, 97, 108, 108, 101, 114]⟩ : ByteArray) = ba S) = false := decide_eq_false gsmaller3
  have gsmaller7 : decide (ba S = (⟨#[115, 109, 97, 108, 108, 101, 114]⟩ : ByteArray)) = false := decide_eq_false (Ne.symm gsmaller3)
  have gsmaller8 : ¬ ba S = (⟨#[115, 109, 97, 108, 108, 101, 114]⟩ : ByteArray) := Ne.symm gsmaller3
  have gbefore0 : ([98, 101, 102, 111, 114, 101] : List UInt8) ≠ (ba S).toList := fun h => hbefore (by rw [ba_toList] at h; exact h.symm)
  have gbefore1 : (⟨#[98, 101, 102, 111, 114, 101]⟩ : ByteArray).toList ≠ (ba S).toList := by rw [show (⟨#[98, 101, 102, 111, 114, 101]⟩ : ByteArray).toList = [98, 101, 102, 111, 114, 101] from ba_toList [98, 101, 102, 111, 114, 101]]; exact gbefore0
  have gbefore2 : ¬ (⟨#[98, 101, 102, 111, 114, 101]⟩ : ByteArray).toList = (ba S).toList := gbefore1
  have gbefore3 : ¬ (⟨#[98, 101, 102, 111, 114, 101]⟩ : ByteArray) = ba S := fun h => gbefore1 (by rw [h])
  have gbefore4 : (([98, 101, 102, 111, 114, 101] : List UInt8) == (ba S).toList) = false := beq_eq_false_iff_ne.2 gbefore0
  have gbefore5 : ((ba S).toList == ([98, 101, 102, 111, 114, 101] : List UInt8)) = false := beq_eq_false_iff_ne.2 (Ne.symm gbefore0)
  have gbefore6 : decide ((⟨#[98, 101, 102, 111, 114, 101]⟩ : ByteArray) = ba S) = false := decide_eq_false gbefore3
  have gbefore7 : decide (ba S = (⟨#[98, 101, 102, 111, 114, 101]⟩ : ByteArray)) = false := decide_eq_false (Ne.symm gbefore3)
  have gbefore8 : ¬ ba S = (⟨#[98, 101, 102, 111, 114, 101]⟩ : ByteArray) := Ne.symm gbefore3
  have gafter0 : ([97, 102, 116, 101, 114] : List UInt8) ≠ (ba S).toList := fun h => hafter (by rw [ba_toList] at h; exact h.symm)
  have gafter1 : (⟨#[97, 102, 116, 101, 114]⟩ : ByteArray).toList ≠ (ba S).toList := by rw [show (⟨#[97, 102, 116, 101, 114]⟩ : ByteArray).toList = [97, 102, 116, 101, 114] from ba_toList [97, 102, 116, 101, 114]]; exact gafter0
  have gafter2 : ¬ (⟨#[97, 102, 116, 101, 114]⟩ : ByteArray).toList = (ba S).toList := gafter1
  have gafter3 : ¬ (⟨#[97, 102, 116, 101, 114]⟩ : ByteArray) = ba S := fun h => gafter1 (by rw [h])
  have gafter4 : (([97, 102, 116, 101, 114] : List UInt8) == (ba S).toList) = false := beq_eq_false_iff_ne.2 gafter0
  have gafter5 : ((ba S).toList == ([97, 102, 116, 101, 114] : List UInt8)) = false := beq_eq_false_iff_ne.2 (Ne.symm gafter0)
  have gafter6 : decide ((⟨#[97, 102, 116, 101, 114]⟩ : ByteArray) = ba S) = false := decide_eq_false gafter3
  have gafter7 : decide (ba S = (⟨#[97, 102, 116, 101, 114]⟩ : ByteArray)) = false := decide_eq_false (Ne.symm gafter3)
  have gafter8 : ¬ ba S = (⟨#[97, 102, 116, 101, 114]⟩ : ByteArray) := Ne.symm gafter3
  obtain ⟨SS, hSS⟩ : ∃ SS, ba S = SS := ⟨_, rfl⟩
  simp only [hSS] at gis0 gis1 gis2 gis3 gis4 gis5 gis6 gis7 gis8 gin0 gin1 gin2 gin3 gin4 gin5 gin6 gin7 gin8 glarger0 glarger1 glarger2 glarger3 glarger4 glarger5 glarger6 glarger7 glarger8 gsmaller0 gsmaller1 gsmaller2 gsmaller3 gsmaller4 gsmaller5 gsmaller6 gsmaller7 gsmaller8 gbefore0 gbefore1 gbefore2 gbefore3 gbefore4 gbefore5 gbefore6 gbefore7 gbefore8 gafter0 gafter1 gafter2 gafter3 gafter4 gafter5 gafter6 gafter7 gafter8
  rw [hSS]
  clear hSS his hin hlarger hsmaller hbefore hafter
  go_enter Tryz.func97, Tryz.ntmps97
  go_wp2
  refine bodyPost_ret (v := .tuple #[.agg #[.int .i64 0, .int .i64 0, .string ⟨#[]⟩, .int .i64 0, .slice none 0 0], .bool false, .bool false]) (by simp [results, Tryz.results97, go_sem]; try rfl) rfl ?_
  exact ⟨rfl, (Below.refl _ _).alloc (Nat.le_refl _) _⟩
end Go.Proofs.YtomcdhmcjndioaaGreatDoor
end
section
namespace Go.Proofs.YtomcdhmcjndioaaGreatDoor
open Go.RowKit
set_option linter.unusedVariables false

def mo (n : Nat) : Nat := if n = 2 then 32 else if n = 3 then 16 else 8
def rvF (u : List UInt8) : Nat → Nat
  | 0 => bt u 0 % mo u.length
  | k + 1 => rvF u k * 64 + bt u (k + 1) % 64
/-- The rune of a unit, as the reference reckons it. -/
def rv (u : List UInt8) : Nat := if u.length = 1 then bt u 0 else rvF u (u.length - 1)
theorem and_mo : ∀ b : Nat, b < 256 → bits BinOp.and IntKind.i64 (b : Int) 31 = ((b % 32 : Nat) : Int) ∧ bits BinOp.and IntKind.i64 (b : Int) 15 = ((b % 16 : Nat) : Int) ∧ bits BinOp.and IntKind.i64 (b : Int) 7 = ((b % 8 : Nat) : Int) ∧ bits BinOp.and IntKind.u8 (b : Int) 63 = ((b % 64 : Nat) : Int) := by decide +kernel
theorem rvF_lt (u : List UInt8) : ∀ k, rvF u k < 32 * 64 ^ k
  | 0 => by
    show bt u 0 % mo u.length < 32
    unfold mo
    repeat' split
    all_goals omega
  | k + 1 => by
    have := rvF_lt u k
    show rvF u k * 64 + bt u (k + 1) % 64 < _
    rw [Nat.pow_succ]
    omega
set_option maxRecDepth 100000 in
set_option maxHeartbeats 4000000 in
theorem rrune_any (u : List UInt8) (w : World) (h1 : 1 ≤ u.length) (h4 : u.length ≤ 4) : Calls Tryz.prog 166 #[.string (ba u)] w fun e w' => e = .returned (.int .i64 (rv u : Int)) ∧ w' = w := by
  obtain ⟨s, hse⟩ : ∃ s, ba u = s := ⟨_, rfl⟩
  have hsz : s.size = u.length := by rw [← hse, ba_size]
  rw [hse]
  have HS := Lib.hid hse
  obtain ⟨n, hn⟩ : ∃ n, u.length = n := ⟨_, rfl⟩
  have HN := Lib.hid hn
  rw [hn] at hsz h1 h4
  have hget : ∀ k (hk : k < s.size), (s[k]'hk).toNat = bt u k := fun k hk => by
    subst hse
    have hk2 : k < u.length := by rw [← ba_size]; exact hk
    unfold bt
    rw [ba_get]
    simp [hk2]
  have HG := Lib.hid hget
  clear hget hn hse
  have hp : 0 < s.size := by omega
  have hu1 : (s[0].toNat : Int) ≤ 255 := by have := s[0].toNat_lt; omega
  have hu0 : (0 : Int) ≤ (s[0].toNat : Int) := by omega
  by_cases hone : n = 1
  · subst hone
    have hz : (s.size : Int) = 1 := by omega
    go_enter Tryz.func166, Tryz.ntmps166
    go_wp2
    go_ret
    refine ⟨?_, rfl⟩
    unfold rv
    rw [if_pos HN.out, ← HG.out 0 hp]
    rfl
  · rcases (by omega : n = 2 ∨ n = 3 ∨ n = 4) with hn | hn | hn
    all_goals
      subst hn
      first
        | (have hz : (s.size : Int) = 2 := by omega)
        | (have hz : (s.size : Int) = 3 := by omega)
        | (have hz : (s.size : Int) = 4 := by omega)
      go_enter Tryz.func166, Tryz.ntmps166
      go_wp2
      have hb0 := HG.out 0 hp
      generalize s[0].toNat = b0 at *
      have HB0 := Lib.hid hb0
      have HSZ := Lib.hid hsz
      clear hz hsz hb0 hu0 hu1 h1 h4 hone hp
      go_loopw [3, 4] (fun r i wr => ∃ k : Nat, 1 ≤ k ∧ k ≤ s.size ∧ i = .int .i64 (k : Int) ∧ r = .int .i64 (rvF u (k - 1) : Int) ∧ wr = w) (fun _ i _ => s.size - (intOf i).toNat)
      case atStart =>
        refine ⟨1, Nat.le_refl _, by rw [HSZ.out]; omega, rfl, ?_, rfl⟩
        rw [HB0.out]
        have h5 := and_mo (bt u 0) (bt_lt u 0)
        first | rw [h5.1] | rw [h5.2.1] | rw [h5.2.2.1]
        show _ = Value.int .i64 ((bt u 0 % mo u.length : Nat) : Int)
        rw [HN.out]
        rfl
      case round =>
        obtain ⟨k, hk1, hk, rfl, rfl, rfl⟩ := hrel
        by_cases hlt : k < s.size
        · have hk2 : (k : Int) < (s.size : Int) := by omega
          have hv1 : (s[k].toNat : Int) ≤ 255 := by have := s[k].toNat_lt; omega
          have hv0 : (0 : Int) ≤ (s[k].toNat : Int) := by omega
          have hb : (rvF u (k - 1) : Int) < 8388608 := by
            have h5 := rvF_lt u (k - 1)
            have h6 : 64 ^ (k - 1) ≤ 64 ^ 3 := Nat.pow_le_pow_right (by omega) (by have := HSZ.out; omega)
            have h7 : (64 : Nat) ^ 3 = 262144 := by decide
            omega
          obtain ⟨x, hx⟩ : ∃ x, rvF u (k - 1) = x := ⟨_, rfl⟩
          rw [hx] at hb
          rw [hx]
          have HX := Lib.hid hx
          clear hx
          have hm1 : (0 : Int) ≤ (x : Int) * 64 := by omega
          have hm2 : (x : Int) * 64 < 536870912 := by omega
          have hk9 : (k : Int) < 4 := by have := HSZ.out; omega
          go_wp2
          go_roundw
          case rel =>
            refine ⟨k + 1, by omega, by omega, by go_num, ?_, trivial⟩
            obtain ⟨j, rfl⟩ : ∃ j, k = j + 1 := ⟨k - 1, by omega⟩
            rw [HG.out (j + 1) hlt]
            show _ = Value.int .i64 ((rvF u j * 64 + bt u (j + 1) % 64 : Nat) : Int)
            have h9 : rvF u j = x := HX.out
            rw [h9]
            go_num
          case measure => simp [intOf] <;> omega
        · obtain rfl : k = s.size := by omega
          have HR := Lib.hid (show rvF u (s.size - 1) = rv u by
            unfold rv
            rw [if_neg (by have := HN.out; omega), HSZ.out, HN.out])
          obtain ⟨x, hx⟩ : ∃ x, rvF u (s.size - 1) = x := ⟨_, rfl⟩
          rw [hx]
          rw [hx] at HR
          clear hx
          go_wp2
          go_ret
          exact ⟨by rw [HR.out]; rfl, rfl⟩
end Go.Proofs.YtomcdhmcjndioaaGreatDoor
end
section
namespace Go.Proofs.YtomcdhmcjndioaaGreatDoor
set_option linter.unusedVariables false

/-- What a unit's first byte tells: its length, and the least rune of that length. -/
def cls (b : Nat) : Nat × Nat := if 194 ≤ b ∧ b ≤ 223 then (2, 128) else if 224 ≤ b ∧ b ≤ 239 then (3, 2048) else if 240 ≤ b ∧ b ≤ 244 then (4, 65536) else (1, 0)
theorem cls_cases (b : Nat) : (194 ≤ b ∧ b ≤ 223 ∧ cls b = (2, 128)) ∨ (224 ≤ b ∧ b ≤ 239 ∧ cls b = (3, 2048)) ∨ (240 ≤ b ∧ b ≤ 244 ∧ cls b = (4, 65536)) ∨ ((b < 194 ∨ 244 < b) ∧ cls b = (1, 0)) := by
  unfold cls
  by_cases h1 : 194 ≤ b ∧ b ≤ 223
  · exact .inl ⟨h1.1, h1.2, if_pos h1⟩
  · rw [if_neg h1]
    by_cases h2 : 224 ≤ b ∧ b ≤ 239
    · exact .inr (.inl ⟨h2.1, h2.2, if_pos h2⟩)
    · rw [if_neg h2]
      by_cases h3 : 240 ≤ b ∧ b ≤ 244
      · exact .inr (.inr (.inl ⟨h3.1, h3.2, if_pos h3⟩))
      · exact .inr (.inr (.inr ⟨by omega, if_neg h3⟩))
set_option maxHeartbeats 2000000 in
theorem len_one {m : List UInt8} (h0 : m ≠ []) (h : (cls (bt m 0)).1 = 1 ∨ m.length < (cls (bt m 0)).1) : (uN m).2 = 1 := by
  have hl : 1 ≤ m.length := List.length_pos_iff.2 h0
  have h1 := cls_cases (bt m 0)
  have h2 := uN_cases m h0
  generalize (uN m).1 = r at *
  generalize (uN m).2 = n at *
  generalize m.length = k at *
  have b1 := bt_lt m 1
  have b2 := bt_lt m 2
  have b3 := bt_lt m 3
  generalize bt m 0 = x0 at *
  generalize bt m 1 = x1 at *
  generalize bt m 2 = x2 at *
  generalize bt m 3 = x3 at *
  clear h0
  rcases h1 with ⟨p, q, e⟩ | ⟨p, q, e⟩ | ⟨p, q, e⟩ | ⟨p, e⟩ <;> rw [e] at h <;> dsimp only at h <;> clear e <;>
    rcases h2 with ⟨hn, h3⟩ | ⟨hn, h3⟩ | ⟨hn, h3⟩ | ⟨hn, h3⟩ <;> omega
set_option maxHeartbeats 2000000 in
theorem len_cont {m : List UInt8} (h0 : m ≠ []) {k : Nat} (hk : 1 ≤ k) (hk2 : k < (cls (bt m 0)).1) (h : bt m k < 128 ∨ 191 < bt m k) : (uN m).2 = 1 := by
  have hl : 1 ≤ m.length := List.length_pos_iff.2 h0
  have h1 := cls_cases (bt m 0)
  have h2 := uN_cases m h0
  have h4 : k = 1 ∨ k = 2 ∨ k = 3 := by
    rcases h1 with ⟨p, q, e⟩ | ⟨p, q, e⟩ | ⟨p, q, e⟩ | ⟨p, e⟩ <;> rw [e] at hk2 <;> dsimp only at hk2 <;> omega
  have b1 := bt_lt m 1
  have b2 := bt_lt m 2
  have b3 := bt_lt m 3
  rcases h4 with rfl | rfl | rfl
  all_goals
    generalize (uN m).1 = r at *
    generalize (uN m).2 = n at *
    generalize m.length = j at *
    generalize bt m 0 = x0 at *
    generalize bt m 1 = x1 at *
    generalize bt m 2 = x2 at *
    generalize bt m 3 = x3 at *
    clear h0
    rcases h1 with ⟨p, q, e⟩ | ⟨p, q, e⟩ | ⟨p, q, e⟩ | ⟨p, e⟩ <;> rw [e] at hk2 <;> dsimp only at hk2 <;> clear e <;>
      rcases h2 with ⟨hn, h3⟩ | ⟨hn, h3⟩ | ⟨hn, h3⟩ | ⟨hn, h3⟩ <;> omega
theorem bt_take {m : List UInt8} {n k : Nat} (h : k < n) : bt (m.take n) k = bt m k := by
  unfold bt
  rw [List.getD_eq_getElem?_getD, List.getD_eq_getElem?_getD, List.getElem?_take_of_lt h]
theorem bt_drop (l : List UInt8) (a k : Nat) : bt (l.drop a) k = bt l (a + k) := by
  unfold bt
  rw [List.getD_eq_getElem?_getD, List.getD_eq_getElem?_getD, List.getElem?_drop]
/-- The last test. -/
def odd (low r : Nat) : Prop := r < low ∨ 1114111 < r ∨ (55296 ≤ r ∧ r ≤ 57343)
set_option maxHeartbeats 4000000 in
theorem len_rune {m : List UInt8} {n low : Nat} (hc : cls (bt m 0) = (n, low)) (hn : 1 < n) (hl : n ≤ m.length) (h : ∀ k, 1 ≤ k → k < n → 128 ≤ bt m k ∧ bt m k ≤ 191) :
    (odd low (rv (m.take n)) → (uN m).2 = 1) ∧ (¬ odd low (rv (m.take n)) → uN m = (rv (m.take n), n)) := by
  have h1 := cls_cases (bt m 0)
  have htl : (m.take n).length = n := by rw [List.length_take]; omega
  have hrv : rv (m.take n) = rvF (m.take n) (n - 1) := by unfold rv; rw [htl, if_neg (by omega)]
  rw [hrv]
  have b0 := bt_lt m 0
  rcases h1 with ⟨p, q, e⟩ | ⟨p, q, e⟩ | ⟨p, q, e⟩ | ⟨p, e⟩
  · rw [hc] at e
    injection e with e1 e2
    subst e1; subst e2
    have k1 := h 1 (by omega) (by omega)
    have hv : rvF (m.take 2) (2 - 1) = bt m 0 % 32 * 64 + bt m 1 % 64 := by
      show bt (m.take 2) 0 % mo (m.take 2).length * 64 + bt (m.take 2) 1 % 64 = _
      rw [htl, bt_take (by omega), bt_take (by omega)]; rfl
    rw [hv]
    unfold odd uN Lib.decodeN
    clear hv hrv htl h hc
    generalize m.length = j at *
    generalize bt m 0 = x0 at *
    generalize bt m 1 = x1 at *
    generalize bt m 2 = x2 at *
    generalize bt m 3 = x3 at *
    rw [if_neg (by omega), if_pos (by omega)]
    split
    · exact ⟨fun h => by omega, fun _ => rfl⟩
    · exact ⟨fun _ => rfl, fun h => by omega⟩
  · rw [hc] at e
    injection e with e1 e2
    subst e1; subst e2
    have k1 := h 1 (by omega) (by omega)
    have k2 := h 2 (by omega) (by omega)
    have hv : rvF (m.take 3) (3 - 1) = bt m 0 % 16 * 4096 + bt m 1 % 64 * 64 + bt m 2 % 64 := by
      show (bt (m.take 3) 0 % mo (m.take 3).length * 64 + bt (m.take 3) 1 % 64) * 64 + bt (m.take 3) 2 % 64 = _
      rw [htl, bt_take (by omega), bt_take (by omega), bt_take (by omega)]
      show (bt m 0 % 16 * 64 + bt m 1 % 64) * 64 + bt m 2 % 64 = _
      omega
    rw [hv]
    unfold odd uN Lib.decodeN
    clear hv hrv htl h hc
    generalize m.length = j at *
    generalize bt m 0 = x0 at *
    generalize bt m 1 = x1 at *
    generalize bt m 2 = x2 at *
    generalize bt m 3 = x3 at *
    rw [if_neg (by omega), if_neg (by omega), if_pos (by omega)]
    split
    · exact ⟨fun h => by omega, fun _ => rfl⟩
    · exact ⟨fun _ => rfl, fun h => by omega⟩
  · rw [hc] at e
    injection e with e1 e2
    subst e1; subst e2
    have k1 := h 1 (by omega) (by omega)
    have k2 := h 2 (by omega) (by omega)
    have k3 := h 3 (by omega) (by omega)
    have hv : rvF (m.take 4) (4 - 1) = bt m 0 % 8 * 262144 + bt m 1 % 64 * 4096 + bt m 2 % 64 * 64 + bt m 3 % 64 := by
      show ((bt (m.take 4) 0 % mo (m.take 4).length * 64 + bt (m.take 4) 1 % 64) * 64 + bt (m.take 4) 2 % 64) * 64 + bt (m.take 4) 3 % 64 = _
      rw [htl, bt_take (by omega), bt_take (by omega), bt_take (by omega), bt_take (by omega)]
      show ((bt m 0 % 8 * 64 + bt m 1 % 64) * 64 + bt m 2 % 64) * 64 + bt m 3 % 64 = _
      omega
    rw [hv]
    unfold odd uN Lib.decodeN
    clear hv hrv htl h hc
    generalize m.length = j at *
    generalize bt m 0 = x0 at *
    generalize bt m 1 = x1 at *
    generalize bt m 2 = x2 at *
    generalize bt m 3 = x3 at *
    rw [if_neg (by omega), if_neg (by omega), if_neg (by omega), if_pos (by omega)]
    split
    · exact ⟨fun h => by omega, fun _ => rfl⟩
    · exact ⟨fun _ => rfl, fun h => by omega⟩
  · rw [hc] at e
    injection e with e1 e2
    omega
end Go.Proofs.YtomcdhmcjndioaaGreatDoor
end
section
namespace Go.Proofs.YtomcdhmcjndioaaGreatDoor
open Go.RowKit
set_option linter.unusedVariables false

theorem byte_at (l : List UInt8) (k : Nat) (hk : k < (ba l).size) : ((ba l)[k]'hk).toNat = bt l k := by
  have hk2 : k < l.length := by rw [← ba_size]; exact hk
  unfold bt
  rw [ba_get]
  simp [hk2]
set_option maxRecDepth 100000 in
set_option maxHeartbeats 8000000 in
theorem rlen_any (l : List UInt8) (a : Nat) (w : World) (ha : a < l.length) (hl : l.length ≤ 1000000000) : Calls Tryz.prog 164 #[.string (ba l), .int .i64 (a : Int)] w fun e w' => e = .returned (.int .i64 ((uN (l.drop a)).2 : Int)) ∧ w' = w := by
  obtain ⟨m, hm⟩ : ∃ m, l.drop a = m := ⟨_, rfl⟩
  have hne : m ≠ [] := by rw [← hm]; intro e; have := congrArg List.length e; rw [List.length_drop] at this; simp at this; omega
  have hml : m.length = l.length - a := by rw [← hm, List.length_drop]
  have hbt : ∀ k, bt l (a + k) = bt m k := fun k => by rw [← hm, bt_drop]
  have H1 := Lib.hid (@len_one m hne)
  have H2 := Lib.hid (fun (k : Nat) => @len_cont m hne k)
  have H3 := Lib.hid (fun (n low : Nat) => @len_rune m n low)
  have HBT := Lib.hid hbt
  have hcut : ∀ n, (ba l).extract a (a + n) = ba (m.take n) := fun n => by rw [ba_cut, ← hm, List.take_drop]
  have HCUT := Lib.hid hcut
  rw [hm]
  clear hm hbt hcut hne
  obtain ⟨s, hse⟩ : ∃ s, ba l = s := ⟨_, rfl⟩
  have hsz : s.size = l.length := by rw [← hse, ba_size]
  have hget : ∀ k (hk : k < s.size), (s[k]'hk).toNat = bt l k := fun k hk => by subst hse; exact byte_at l k hk
  rw [hse] at HCUT
  rw [hse]
  have HG := Lib.hid hget
  rw [← hsz] at ha hl
  have HML := Lib.hid (show m.length = s.size - a by omega)
  clear hget hml hsz hse
  have ha2 : (a : Int) < (s.size : Int) := by omega
  have hu1 : (s[a].toNat : Int) ≤ 255 := by have := s[a].toNat_lt; omega
  have hu0 : (0 : Int) ≤ (s[a].toNat : Int) := by omega
  have hb0 : s[a].toNat = bt m 0 := (HG.out a ha).trans (HBT.out 0)
  have hcc := cls_cases (bt m 0)
  rw [← hb0] at hcc H1 H2 H3
  clear hb0
  rcases hcc with ⟨p, q, e⟩ | ⟨p, q, e⟩ | ⟨p, q, e⟩ | ⟨p, e⟩
  · have p2 : (194 : Int) ≤ (s[a].toNat : Int) := by omega
    have q2 : (s[a].toNat : Int) ≤ 223 := by omega
    have HE := Lib.hid e
    rw [e] at H1
    have HC2 := Lib.hid (fun (k : Nat) (h1 : 1 ≤ k) (h2 : k < 2) h => H2.out k h1 (by rw [e]; exact h2) h)
    have HC3 := Lib.hid (H3.out 2 128 e (by omega))
    clear p q e H2 H3
    by_cases hfit : a + 2 ≤ s.size
    · have hf2 : (a : Int) + 2 ≤ (s.size : Int) := by omega
      go_enter Tryz.func164, Tryz.ntmps164
      go_wp2
      go_loopw [8] (fun i wr => ∃ k : Nat, 1 ≤ k ∧ k ≤ 2 ∧ i = .int .i64 (k : Int) ∧ wr = w ∧ Hid (∀ j, 1 ≤ j → j < k → 128 ≤ bt m j ∧ bt m j ≤ 191)) (fun i _ => 2 - (intOf i).toNat)
      case atStart => exact ⟨1, Nat.le_refl _, by omega, rfl, rfl, Lib.hid (fun j h1 h2 => by omega)⟩
      case round =>
        obtain ⟨k, hk1, hk, rfl, rfl, HC⟩ := hrel
        by_cases hlt : k < 2
        · have hk2 : (k : Int) < 2 := by omega
          have hak : a + k < s.size := by omega
          have hak2 : (a : Int) + (k : Int) < (s.size : Int) := by omega
          have z1 : (0 : Int) ≤ (a : Int) + (k : Int) := by omega
          have t1 : ((a : Int) + (k : Int)).toNat = a + k := by omega
          have HV := Lib.hid ((HG.out (a + k) hak).trans (HBT.out k))
          by_cases hlow : s[a + k].toNat < 128
          · have HR := Lib.hid (HC2.out k hk1 hlt (.inl (by rw [← HV.out]; exact hlow)))
            have hl2 : (s[a + k].toNat : Int) < 128 := by omega
            go_wp2
            go_ret
            exact ⟨by rw [HR.out]; rfl, rfl⟩
          · have hl2 : ¬ (s[a + k].toNat : Int) < 128 := by omega
            by_cases hhi : 191 < s[a + k].toNat
            · have HR := Lib.hid (HC2.out k hk1 hlt (.inr (by rw [← HV.out]; exact hhi)))
              have hl3 : (191 : Int) < (s[a + k].toNat : Int) := by omega
              go_wp2
              go_ret
              exact ⟨by rw [HR.out]; rfl, rfl⟩
            · have hl3 : ¬ (191 : Int) < (s[a + k].toNat : Int) := by omega
              have HN := Lib.hid (show ∀ j, 1 ≤ j → j < k + 1 → 128 ≤ bt m j ∧ bt m j ≤ 191 from fun j h1 h2 => by
                by_cases hj : j < k
                · exact HC.out j h1 hj
                · obtain rfl : j = k := by omega
                  rw [← HV.out]; omega)
              go_wp2
              go_roundw
              case rel => exact ⟨k + 1, by omega, by omega, by go_num, by trivial, HN⟩
              case measure => simp [intOf] <;> omega
        · obtain rfl : k = 2 := by omega
          have HL3 := Lib.hid (HC3.out (by have := HML.out; omega) HC.out)
          have hcut := HCUT.out 2
          have HM := Lib.hid (show (m.take 2).length = 2 by rw [List.length_take]; have := HML.out; omega)
          go_wp2_with fail
          rw [hcut]
          refine (rrune_any (m.take 2) wr (by rw [HM.out]; omega) (by rw [HM.out]; omega)).mono ?_
          rintro e w1 ⟨rfl, rfl⟩
          obtain ⟨x, hx⟩ : ∃ x, rv (m.take 2) = x := ⟨_, rfl⟩
          rw [hx] at HL3
          rw [hx]
          clear hx hcut
          obtain ⟨y, hy⟩ : ∃ y : Int, (x : Int) = y := ⟨_, rfl⟩
          rw [hy]
          by_cases ho : odd 128 x
          · have HR := Lib.hid (HL3.out.1 ho)
            rcases ho with ho | ho | ho
            · have h5 : y < 128 := by omega
              clear hy ho
              go_wp2
              go_ret
              exact ⟨by rw [HR.out]; rfl, rfl⟩
            · have h5 : (1114111 : Int) < y := by omega
              clear ho hy
              go_wp2
              go_ret
              exact ⟨by rw [HR.out]; rfl, rfl⟩
            · have h5 : (55296 : Int) ≤ y := by omega
              have h6 : y ≤ 57343 := by omega
              clear ho hy
              go_wp2
              go_ret
              exact ⟨by rw [HR.out]; rfl, rfl⟩
          · have HR := Lib.hid (HL3.out.2 ho)
            have h7 : (128 : Int) ≤ y := by unfold odd at ho; omega
            have h8 : ¬ (1114111 : Int) < y := by unfold odd at ho; omega
            by_cases h9 : x < 55296
            · have h5 : y < 55296 := by omega
              have h10 : ¬ (55296 : Int) ≤ y := by omega
              clear ho h9 h5 hy
              go_wp2
              go_ret
              exact ⟨by rw [HR.out]; rfl, rfl⟩
            · have h5 : (57343 : Int) < y := by unfold odd at ho; omega
              clear ho h9 hy
              go_wp2
              go_ret
              exact ⟨by rw [HR.out]; rfl, rfl⟩
    · have hf2 : ¬ (a : Int) + 2 ≤ (s.size : Int) := by omega
      have HR := Lib.hid (H1.out (.inr (by have := HML.out; show m.length < 2; omega)))
      go_enter Tryz.func164, Tryz.ntmps164
      go_wp2
      go_ret
      exact ⟨by rw [HR.out]; rfl, rfl⟩
  · have p2 : (224 : Int) ≤ (s[a].toNat : Int) := by omega
    have q2 : (s[a].toNat : Int) ≤ 239 := by omega
    have HE := Lib.hid e
    rw [e] at H1
    have HC2 := Lib.hid (fun (k : Nat) (h1 : 1 ≤ k) (h2 : k < 3) h => H2.out k h1 (by rw [e]; exact h2) h)
    have HC3 := Lib.hid (H3.out 3 2048 e (by omega))
    clear p q e H2 H3
    by_cases hfit : a + 3 ≤ s.size
    · have hf2 : (a : Int) + 3 ≤ (s.size : Int) := by omega
      go_enter Tryz.func164, Tryz.ntmps164
      go_wp2
      go_loopw [8] (fun i wr => ∃ k : Nat, 1 ≤ k ∧ k ≤ 3 ∧ i = .int .i64 (k : Int) ∧ wr = w ∧ Hid (∀ j, 1 ≤ j → j < k → 128 ≤ bt m j ∧ bt m j ≤ 191)) (fun i _ => 3 - (intOf i).toNat)
      case atStart => exact ⟨1, Nat.le_refl _, by omega, rfl, rfl, Lib.hid (fun j h1 h2 => by omega)⟩
      case round =>
        obtain ⟨k, hk1, hk, rfl, rfl, HC⟩ := hrel
        by_cases hlt : k < 3
        · have hk2 : (k : Int) < 3 := by omega
          have hak : a + k < s.size := by omega
          have hak2 : (a : Int) + (k : Int) < (s.size : Int) := by omega
          have z1 : (0 : Int) ≤ (a : Int) + (k : Int) := by omega
          have t1 : ((a : Int) + (k : Int)).toNat = a + k := by omega
          have HV := Lib.hid ((HG.out (a + k) hak).trans (HBT.out k))
          by_cases hlow : s[a + k].toNat < 128
          · have HR := Lib.hid (HC2.out k hk1 hlt (.inl (by rw [← HV.out]; exact hlow)))
            have hl2 : (s[a + k].toNat : Int) < 128 := by omega
            go_wp2
            go_ret
            exact ⟨by rw [HR.out]; rfl, rfl⟩
          · have hl2 : ¬ (s[a + k].toNat : Int) < 128 := by omega
            by_cases hhi : 191 < s[a + k].toNat
            · have HR := Lib.hid (HC2.out k hk1 hlt (.inr (by rw [← HV.out]; exact hhi)))
              have hl3 : (191 : Int) < (s[a + k].toNat : Int) := by omega
              go_wp2
              go_ret
              exact ⟨by rw [HR.out]; rfl, rfl⟩
            · have hl3 : ¬ (191 : Int) < (s[a + k].toNat : Int) := by omega
              have HN := Lib.hid (show ∀ j, 1 ≤ j → j < k + 1 → 128 ≤ bt m j ∧ bt m j ≤ 191 from fun j h1 h2 => by
                by_cases hj : j < k
                · exact HC.out j h1 hj
                · obtain rfl : j = k := by omega
                  rw [← HV.out]; omega)
              go_wp2
              go_roundw
              case rel => exact ⟨k + 1, by omega, by omega, by go_num, by trivial, HN⟩
              case measure => simp [intOf] <;> omega
        · obtain rfl : k = 3 := by omega
          have HL3 := Lib.hid (HC3.out (by have := HML.out; omega) HC.out)
          have hcut := HCUT.out 3
          have HM := Lib.hid (show (m.take 3).length = 3 by rw [List.length_take]; have := HML.out; omega)
          go_wp2_with fail
          rw [hcut]
          refine (rrune_any (m.take 3) wr (by rw [HM.out]; omega) (by rw [HM.out]; omega)).mono ?_
          rintro e w1 ⟨rfl, rfl⟩
          obtain ⟨x, hx⟩ : ∃ x, rv (m.take 3) = x := ⟨_, rfl⟩
          rw [hx] at HL3
          rw [hx]
          clear hx hcut
          obtain ⟨y, hy⟩ : ∃ y : Int, (x : Int) = y := ⟨_, rfl⟩
          rw [hy]
          by_cases ho : odd 2048 x
          · have HR := Lib.hid (HL3.out.1 ho)
            rcases ho with ho | ho | ho
            · have h5 : y < 2048 := by (have := ho; omega)
              clear ho hy
              go_wp2
              go_ret
              exact ⟨by rw [HR.out]; rfl, rfl⟩
            · have h5 : (1114111 : Int) < y := by omega
              clear ho hy
              go_wp2
              go_ret
              exact ⟨by rw [HR.out]; rfl, rfl⟩
            · have h5 : (55296 : Int) ≤ y := by omega
              have h6 : y ≤ 57343 := by omega
              clear ho hy
              go_wp2
              go_ret
              exact ⟨by rw [HR.out]; rfl, rfl⟩
          · have HR := Lib.hid (HL3.out.2 ho)
            have h7 : (2048 : Int) ≤ y := by unfold odd at ho; omega
            have h8 : ¬ (1114111 : Int) < y := by unfold odd at ho; omega
            by_cases h9 : x < 55296
            · have h5 : y < 55296 := by omega
              have h10 : ¬ (55296 : Int) ≤ y := by omega
              clear ho h9 h5 hy
              go_wp2
              go_ret
              exact ⟨by rw [HR.out]; rfl, rfl⟩
            · have h5 : (57343 : Int) < y := by unfold odd at ho; omega
              clear ho h9 hy
              go_wp2
              go_ret
              exact ⟨by rw [HR.out]; rfl, rfl⟩
    · have hf2 : ¬ (a : Int) + 3 ≤ (s.size : Int) := by omega
      have HR := Lib.hid (H1.out (.inr (by have := HML.out; show m.length < 3; omega)))
      go_enter Tryz.func164, Tryz.ntmps164
      go_wp2
      go_ret
      exact ⟨by rw [HR.out]; rfl, rfl⟩
  · have p2 : (240 : Int) ≤ (s[a].toNat : Int) := by omega
    have q2 : (s[a].toNat : Int) ≤ 244 := by omega
    have HE := Lib.hid e
    rw [e] at H1
    have HC2 := Lib.hid (fun (k : Nat) (h1 : 1 ≤ k) (h2 : k < 4) h => H2.out k h1 (by rw [e]; exact h2) h)
    have HC3 := Lib.hid (H3.out 4 65536 e (by omega))
    clear p q e H2 H3
    by_cases hfit : a + 4 ≤ s.size
    · have hf2 : (a : Int) + 4 ≤ (s.size : Int) := by omega
      go_enter Tryz.func164, Tryz.ntmps164
      go_wp2
      go_loopw [8] (fun i wr => ∃ k : Nat, 1 ≤ k ∧ k ≤ 4 ∧ i = .int .i64 (k : Int) ∧ wr = w ∧ Hid (∀ j, 1 ≤ j → j < k → 128 ≤ bt m j ∧ bt m j ≤ 191)) (fun i _ => 4 - (intOf i).toNat)
      case atStart => exact ⟨1, Nat.le_refl _, by omega, rfl, rfl, Lib.hid (fun j h1 h2 => by omega)⟩
      case round =>
        obtain ⟨k, hk1, hk, rfl, rfl, HC⟩ := hrel
        by_cases hlt : k < 4
        · have hk2 : (k : Int) < 4 := by omega
          have hak : a + k < s.size := by omega
          have hak2 : (a : Int) + (k : Int) < (s.size : Int) := by omega
          have z1 : (0 : Int) ≤ (a : Int) + (k : Int) := by omega
          have t1 : ((a : Int) + (k : Int)).toNat = a + k := by omega
          have HV := Lib.hid ((HG.out (a + k) hak).trans (HBT.out k))
          by_cases hlow : s[a + k].toNat < 128
          · have HR := Lib.hid (HC2.out k hk1 hlt (.inl (by rw [← HV.out]; exact hlow)))
            have hl2 : (s[a + k].toNat : Int) < 128 := by omega
            go_wp2
            go_ret
            exact ⟨by rw [HR.out]; rfl, rfl⟩
          · have hl2 : ¬ (s[a + k].toNat : Int) < 128 := by omega
            by_cases hhi : 191 < s[a + k].toNat
            · have HR := Lib.hid (HC2.out k hk1 hlt (.inr (by rw [← HV.out]; exact hhi)))
              have hl3 : (191 : Int) < (s[a + k].toNat : Int) := by omega
              go_wp2
              go_ret
              exact ⟨by rw [HR.out]; rfl, rfl⟩
            · have hl3 : ¬ (191 : Int) < (s[a + k].toNat : Int) := by omega
              have HN := Lib.hid (show ∀ j, 1 ≤ j → j < k + 1 → 128 ≤ bt m j ∧ bt m j ≤ 191 from fun j h1 h2 => by
                by_cases hj : j < k
                · exact HC.out j h1 hj
                · obtain rfl : j = k := by omega
                  rw [← HV.out]; omega)
              go_wp2
              go_roundw
              case rel => exact ⟨k + 1, by omega, by omega, by go_num, by trivial, HN⟩
              case measure => simp [intOf] <;> omega
        · obtain rfl : k = 4 := by omega
          have HL3 := Lib.hid (HC3.out (by have := HML.out; omega) HC.out)
          have hcut := HCUT.out 4
          have HM := Lib.hid (show (m.take 4).length = 4 by rw [List.length_take]; have := HML.out; omega)
          go_wp2_with fail
          rw [hcut]
          refine (rrune_any (m.take 4) wr (by rw [HM.out]; omega) (by rw [HM.out]; omega)).mono ?_
          rintro e w1 ⟨rfl, rfl⟩
          obtain ⟨x, hx⟩ : ∃ x, rv (m.take 4) = x := ⟨_, rfl⟩
          rw [hx] at HL3
          rw [hx]
          clear hx hcut
          obtain ⟨y, hy⟩ : ∃ y : Int, (x : Int) = y := ⟨_, rfl⟩
          rw [hy]
          by_cases ho : odd 65536 x
          · have HR := Lib.hid (HL3.out.1 ho)
            rcases ho with ho | ho | ho
            · have h5 : y < 65536 := by (have := ho; omega)
              clear ho hy
              go_wp2
              go_ret
              exact ⟨by rw [HR.out]; rfl, rfl⟩
            · have h5 : (1114111 : Int) < y := by omega
              clear ho hy
              go_wp2
              go_ret
              exact ⟨by rw [HR.out]; rfl, rfl⟩
            · have h5 : (55296 : Int) ≤ y := by omega
              have h6 : y ≤ 57343 := by omega
              clear ho hy
              go_wp2
              go_ret
              exact ⟨by rw [HR.out]; rfl, rfl⟩
          · have HR := Lib.hid (HL3.out.2 ho)
            have h7 : (65536 : Int) ≤ y := by unfold odd at ho; omega
            have h8 : ¬ (1114111 : Int) < y := by unfold odd at ho; omega
            by_cases h9 : x < 55296
            · exfalso; omega
            · have h5 : (57343 : Int) < y := by unfold odd at ho; omega
              clear ho h9 hy
              go_wp2
              go_ret
              exact ⟨by rw [HR.out]; rfl, rfl⟩
    · have hf2 : ¬ (a : Int) + 4 ≤ (s.size : Int) := by omega
      have HR := Lib.hid (H1.out (.inr (by have := HML.out; show m.length < 4; omega)))
      go_enter Tryz.func164, Tryz.ntmps164
      go_wp2
      go_ret
      exact ⟨by rw [HR.out]; rfl, rfl⟩
  · have HR := Lib.hid (H1.out (.inl (by rw [e])))
    clear e
    rcases p with p | p
    · have p2 : (s[a].toNat : Int) < 194 := by omega
      clear p
      go_enter Tryz.func164, Tryz.ntmps164
      go_wp2
      go_ret
      exact ⟨by rw [HR.out]; rfl, rfl⟩
    · have p2 : (244 : Int) < (s[a].toNat : Int) := by omega
      clear p
      go_enter Tryz.func164, Tryz.ntmps164
      go_wp2
      go_ret
      exact ⟨by rw [HR.out]; rfl, rfl⟩
end Go.Proofs.YtomcdhmcjndioaaGreatDoor
end
section
namespace Go.Proofs.YtomcdhmcjndioaaGreatDoor
open Go.RowKit
set_option linter.unusedVariables false

def unitsL : Nat → List UInt8 → List (List UInt8)
  | 0, _ => []
  | f + 1, l => if l = [] then [] else l.take (uN l).2 :: unitsL f (l.drop (uN l).2)
/-- The units of a text. -/
def unitsP (l : List UInt8) : List (List UInt8) := unitsL l.length l
theorem unitsL_fuel : ∀ (k j : Nat) (l : List UInt8), l.length ≤ k → l.length ≤ j → unitsL k l = unitsL j l
  | 0, j, l, h, _ => by
    have : l = [] := List.eq_nil_of_length_eq_zero (by omega)
    subst this
    cases j with
    | zero => rfl
    | succ j => unfold unitsL; rw [if_pos rfl]
  | k + 1, 0, l, _, h => by
    have : l = [] := List.eq_nil_of_length_eq_zero (by omega)
    subst this
    show unitsL (k + 1) [] = []
    unfold unitsL; rw [if_pos rfl]
  | k + 1, j + 1, l, h1, h2 => by
    unfold unitsL
    by_cases hl : l = []
    · rw [if_pos hl, if_pos hl]
    · have hp := uN_pos l hl
      rw [if_neg hl, if_neg hl, unitsL_fuel k j _ (by rw [List.length_drop]; omega) (by rw [List.length_drop]; omega)]
theorem unitsP_nil : unitsP [] = [] := rfl
theorem unitsP_cons {l : List UInt8} (h : l ≠ []) : unitsP l = l.take (uN l).2 :: unitsP (l.drop (uN l).2) := by
  have hp := uN_pos l h
  have hl : l.length = (l.length - 1) + 1 := by have := List.length_pos_iff.2 h; omega
  unfold unitsP
  rw [hl]
  conv => lhs; unfold unitsL
  rw [if_neg h, unitsL_fuel (l.length - 1) (l.drop (uN l).2).length _ (by rw [List.length_drop]; omega) (Nat.le_refl _)]
def UnitsRel (w : World) (l : List UInt8) (pos : Nat) (v : Value) (wr : World) : Prop := ∃ acc, OwnStrs wr w.heap.size v acc ∧ Below w.heap.size w wr ∧ acc ++ unitsP (l.drop pos) = unitsP l ∧ acc.length ≤ pos
set_option maxRecDepth 100000 in
set_option maxHeartbeats 4000000 in
theorem units_any (l : List UInt8) (w : World) (hl : l.length ≤ 1000000000) : Calls Tryz.prog 146 #[.string (ba l)] w (StrsBack w (unitsP l)) := by
  have hsz : (ba l).size = l.length := ba_size l
  have HSZ := Lib.hid hsz
  rw [← hsz] at hl
  clear hsz
  go_enter Tryz.func146, Tryz.ntmps146
  go_wp2
  go_loopw [3, 4] (fun v i wr => ∃ pos : Nat, pos ≤ (ba l).size ∧ i = .int .i64 (pos : Int) ∧ Hid (UnitsRel w l pos v wr)) (fun _ i _ => (ba l).size - (intOf i).toNat)
  case atStart => exact ⟨0, Nat.zero_le _, rfl, [], OwnStrs.nil_ _ _, Below.refl _ _, rfl, Nat.le_refl _⟩
  case round =>
    obtain ⟨pos, hpos, rfl, HR⟩ := hrel
    obtain ⟨acc, hown, hbw, hacc, hal⟩ := HR.out
    by_cases hp : pos < (ba l).size
    · have hp2 : (pos : Int) < ((ba l).size : Int) := by omega
      have hne : l.drop pos ≠ [] := by intro e; have := congrArg List.length e; rw [List.length_drop, ← HSZ.out] at this; simp at this; omega
      have hup := uN_pos _ hne
      rw [unitsP_cons hne, List.drop_drop] at hacc
      have HLN := Lib.hid (rlen_any l pos wr (by rw [← HSZ.out]; exact hp) (by rw [← HSZ.out]; exact hl))
      obtain ⟨⟨r, n⟩, hrn⟩ : ∃ q, uN (l.drop pos) = q := ⟨_, rfl⟩
      rw [hrn] at hup hacc HLN
      dsimp only at hup hacc HLN
      rw [List.length_drop, ← HSZ.out] at hup
      have hcut : (ba l).extract pos (pos + n) = ba ((l.drop pos).take n) := by rw [ba_cut, List.take_drop]
      have HCUT := Lib.hid hcut
      have HOWN := Lib.hid hown
      have HBW := Lib.hid hbw
      have hB : w.heap.size ≤ wr.heap.size := hbw.size
      have HACC := Lib.hid (show (acc ++ [(l.drop pos).take n]) ++ unitsP (l.drop (pos + n)) = unitsP l by rw [← hacc, List.append_assoc]; rfl)
      have HAL := Lib.hid (show (acc ++ [(l.drop pos).take n]).length ≤ pos + n by rw [List.length_append, List.length_singleton]; omega)
      have HA2 := Lib.hid (show acc.length < 1099511627776 by omega)
      clear hcut hown hbw hacc hal HR hrn hne
      go_wp2_with fail
      refine HLN.out.mono ?_
      rintro e w1 ⟨rfl, rfl⟩
      go_wp2_with (at_builtin; rw [HCUT.out]; go_must (refine wpList_pushStr (s := (l.drop pos).take n) HOWN.out hB HA2.out rfl (.tmp 13) (.tmp 20) 32 1 rfl Tryz.underlying32 rfl rfl ?_); intro v2 w2 h1 h2 h3; (have H1 := Lib.hid h1; have H2 := Lib.hid h2; clear h1 h2 h3))
      go_roundw
      case rel =>
        exact ⟨pos + n, by omega, by go_num, _, H1.out, HBW.out.grown H2.out hB fun g e => (HOWN.out.lt g e).1, HACC.out, HAL.out⟩
      case measure => simp [intOf] <;> omega
    · obtain rfl : pos = (ba l).size := by omega
      have HF := Lib.hid (show acc = unitsP l by
        rw [← hacc, List.drop_of_length_le (by rw [← HSZ.out]; exact Nat.le_refl _), unitsP_nil, List.append_nil])
      have HO := Lib.hid hown
      have HB := Lib.hid hbw
      clear hown hbw hacc hal HR
      go_wp2
      go_ret
      exact ⟨_, rfl, by rw [← HF.out]; exact HO.out, HB.out⟩
end Go.Proofs.YtomcdhmcjndioaaGreatDoor
end
