/- Layer 12: the contract of where. Layer 12: the contract of pair. Layer 12: rows of tokens in memory; the contract of rows. -/
import Derived.Lib.LastIndexByte
import Derived.Handy
import Derived.Deep.RegionHeld3
import Derived.Test.YthidbmeaccpjdaaGreatDoorM09
import Derived.Test.YthidbmeaccpjdaaGreatDoorM03
import Derived.Test.YthidbmeaccpjdaaGreatDoorM06
import Derived.Test.YthidbmeaccpjdaaGreatDoorM08
import Derived.Test.YthidbmeaccpjdaaGreatDoorM07
section
namespace Go.Proofs.YthidbmeaccpjdaaGreatDoor
open Go.RowKit
set_option linter.unusedVariables false
def lastV (c : UInt8) (l : List UInt8) : Int := match lastP c l with
 | some q => (q.1.length : Int)
 | none => -1
theorem lastP_some {c : UInt8} {l a b : List UInt8} (h : lastP c l = some (a, b)) : l = a ++ c :: b ∧ c ∉ b := by
 unfold lastP at h
 obtain ⟨q, hq, he⟩ := Option.map_eq_some_iff.1 h
 obtain ⟨x, y⟩ := q
 injection he with e1 e2
 subst e1; subst e2
 have h1 := cutP_some hq
 have h2 := congrArg List.reverse h1.1
 rw [List.reverse_reverse] at h2
 rw [h2]
 exact ⟨by simp, by simpa using h1.2⟩
theorem lastP_none {c : UInt8} {l : List UInt8} (h : lastP c l = none) : c ∉ l := by
 unfold lastP at h
 have h1 := cutP_none.1 (Option.map_eq_none_iff.1 h)
 simpa using h1
theorem lastIdx_eq (c : UInt8) (l : List UInt8) : Lib.lastIndexByte (ba l) (c.toNat : Int) = lastV c l := by
 have hs : (ba l).size = l.length := ba_size l
 have hg : ∀ j, j < l.length → (ba l).data[j]! = l.getD j 0 := fun j hj => by
  show (l.toArray)[j]! = _
  simp [hj]
 unfold lastV
 rcases Lib.lastIndexByte_spec (ba l) (c.toNat : Int) with ⟨h1, h2⟩ | ⟨i, hi, h1, h2, h3⟩
 ·rw [h1]
  cases h : lastP c l with
  | none => rfl
  | some q =>
   obtain ⟨a, b⟩ := q
   have h4 := (lastP_some h).1
   have hlt : a.length < l.length := by rw [h4]; simp
   have h5 := h2 a.length (by rw [hs]; exact hlt)
   rw [hg _ hlt, h4] at h5
   exact absurd (by simp) h5
 ·rw [h1]
  rw [hs] at hi
  rw [hg i hi] at h2
  have hci : l.getD i 0 = c := UInt8.toNat_inj.1 (by omega)
  cases h : lastP c l with
  | none =>
   have h4 := lastP_none h
   refine absurd ?_ h4
   rw [← hci, List.getD_eq_getElem?_getD, List.getElem?_eq_getElem hi]
   exact List.getElem_mem hi
  | some q =>
   obtain ⟨a, b⟩ := q
   have h4 := lastP_some h
   show (i : Int) = (a.length : Int)
   have hlt : a.length < l.length := by rw [h4.1]; simp
   rcases Nat.lt_trichotomy i a.length with h5 | h5 | h5
   ·have h6 := h3 a.length h5 (by rw [hs]; exact hlt)
    rw [hg _ hlt] at h6
    refine absurd ?_ h6
    rw [h4.1]
    simp
   ·rw [h5]
   ·exfalso
    have e : l.getD i 0 = b.getD (i - (a.length + 1)) 0 := by
     rw [h4.1, List.getD_eq_getElem?_getD, List.getElem?_append_right (by omega), show i - a.length = (i - (a.length + 1)) + 1 by omega]
     rfl
    rw [e] at hci
    have hib : i - (a.length + 1) < b.length := by
     have : l.length = a.length + (b.length + 1) := by rw [h4.1]; simp
     omega
    apply h4.2
    rw [← hci, List.getD_eq_getElem?_getD, List.getElem?_eq_getElem hib]
    exact List.getElem_mem hib
theorem suffix_star (l : List UInt8) : Lib.hasSuffix l [42] = decide (l.getLast? = some 42) := by
 unfold Lib.hasSuffix
 rw [Bool.eq_iff_iff, decide_eq_true_iff, List.isSuffixOf_iff_suffix]
 constructor
 ·rintro ⟨t, rfl⟩
  simp
 ·intro h
  obtain ⟨t, ht⟩ := List.getLast?_eq_some_iff.1 h
  exact ⟨t, ht.symm⟩
def WherePost (w : World) (n : List UInt8) (e : Ending) (w' : World) : Prop := e = .returned (spotV (whereP n)) ∧ Below w.heap.size w w'
theorem where_fin {w w' : World} {n m : List UInt8} {v : Int} {b : Bool} (h : whereP n = ⟨m, v, b⟩) (hb : Below w.heap.size w w') : WherePost w n (.returned (.agg #[.string (ba m), .int .i64 v, .bool b])) w' := by
 unfold WherePost
 rw [h]
 exact ⟨rfl, hb⟩
theorem whereP_none (n : List UInt8) (wd : Bool) (m : List UInt8) (h1 : (decide (1 < n.length) && decide (n.getLast? = some 42)) = wd) (h2 : (if wd = true then n.dropLast else n) = m) (h3 : lastP 42 m = none) : whereP n = ⟨m, -1, wd⟩ := by
 unfold whereP
 simp only [h1, h2, h3]
theorem whereP_bad (n : List UInt8) (wd : Bool) (m : List UInt8) (h1 : (decide (1 < n.length) && decide (n.getLast? = some 42)) = wd) (h2 : (if wd = true then n.dropLast else n) = m) (a b : List UInt8) (h3 : lastP 42 m = some (a, b)) (h4 : decP b 0 63 = none) : whereP n = ⟨m, -1, wd⟩ := by
 unfold whereP
 simp only [h1, h2, h3, h4]
theorem whereP_num (n : List UInt8) (wd : Bool) (m : List UInt8) (h1 : (decide (1 < n.length) && decide (n.getLast? = some 42)) = wd) (h2 : (if wd = true then n.dropLast else n) = m) (a b : List UInt8) (h3 : lastP 42 m = some (a, b)) (v : Int) (h4 : decP b 0 63 = some v) : whereP n = ⟨a, v, wd⟩ := by
 unfold whereP
 simp only [h1, h2, h3, h4]
set_option maxRecDepth 100000 in
set_option maxHeartbeats 4000000 in
theorem where_any (n : List UInt8) (w : World) (hn : n.length ≤ 1000000000) (hT : Tabs w) :
  Calls Tryz.prog 200 #[.string (ba n)] w (WherePost w n) := by
 have HSUF := Lib.hid (fun W => Tryz.strings_HasSuffix (ba n) ⟨#[42]⟩ W (by rw [ba_size]; omega))
 have HSE := Lib.hid (suffix_star n)
 have HT := Lib.hid hT
 obtain ⟨wd, hwd⟩ : ∃ b, (decide (1 < n.length) && decide (n.getLast? = some 42)) = b := ⟨_, rfl⟩
 obtain ⟨m, hm⟩ : ∃ m, (if wd = true then n.dropLast else n) = m := ⟨_, rfl⟩
 have HN1 := Lib.hid (whereP_none n wd m hwd hm)
 have HN2 := Lib.hid (whereP_bad n wd m hwd hm)
 have HN3 := Lib.hid (whereP_num n wd m hwd hm)
 have hml : m.length ≤ 1000000000 := by rw [← hm]; split; rw [List.length_dropLast]; omega; exact hn
 have HML := Lib.hid hml
 have HLI := Lib.hid (fun W => Tryz.strings_LastIndexByte (ba m) 42 (by rw [ba_size]; omega) W)
 have HLV := Lib.hid (show Lib.lastIndexByte (ba m) 42 = lastV 42 m from lastIdx_eq 42 m)
 have HM := Lib.hid hm
 clear hT hml
 by_cases h1 : 1 < n.length
 ·have g1 : decide ((1 : Int) < ((ba n).size : Int)) = true := decide_eq_true (by rw [ba_size]; omega)
  have hs1 : (1 : Int) ≤ ((ba n).size : Int) := by rw [ba_size]; omega
  have hs2 : ((ba n).size : Int) ≤ 1000000000 := by rw [ba_size]; omega
  cases h2 : decide (n.getLast? = some 42) with
  | true =>
   have hwd2 : wd = true := by rw [← hwd, h2]; simp [h1]
   subst hwd2
   have hmd : (ba n).extract 0 ((ba n).size - 1) = ba m := by
    rw [← hm, ba_cut, ba_size, if_pos rfl, List.dropLast_eq_take]
    rfl
   have HMD := Lib.hid hmd
   rw [h2] at HSE
   clear hwd hm h1 h2 hmd
   go_enter Tryz.func200, Tryz.ntmps200
   go_wp2_with fail
   refine (HSUF.out _).mono ?_
   rintro e w' ⟨rfl, hw⟩
   have hw2 := hw.symm
   subst hw2
   clear hw
   rw [show Lib.hasSuffix (ba n).data.toList (⟨#[42]⟩ : ByteArray).data.toList = true from HSE.out]
   go_wp2_with fail
   rw [HMD.out]
   have HW0 := Lib.hid (show Below w.heap.size w ((w.alloc (.cells #[.string ⟨#[]⟩, .int .i64 0, .bool false] 198)).alloc (.cells #[.string (ba m), .int .i64 (-1), .bool true] 198)) from ((Below.refl _ _).alloc (Nat.le_refl _) _).alloc (by simp) _)
   go_wp2_with fail
   refine (HLI.out _).mono ?_
   rintro e w' ⟨rfl, hw⟩
   have hw2 := hw.symm
   subst hw2
   clear hw
   rw [HLV.out]
   cases hlp : lastP 42 m with
   | none =>
    have g5 : lastV 42 m = -1 := by unfold lastV; rw [hlp]
    rw [g5]
    have HF := Lib.hid (HN1.out hlp)
    clear hlp g5
    go_wp2
    go_returns
    exact where_fin HF.out (((Below.refl _ _).alloc (Nat.le_refl _) _).alloc (by simp) _)
   | some q =>
    obtain ⟨a, b⟩ := q
    have hab := (lastP_some hlp).1
    have g5 : lastV 42 m = (a.length : Int) := by unfold lastV; rw [hlp]
    have HN2B := Lib.hid (HN2.out a b hlp)
    have HN3B := Lib.hid (HN3.out a b hlp)
    rw [g5]
    have hsm : (ba m).size = a.length + (b.length + 1) := by rw [ba_size, hab]; simp
    have hex1 : (ba m).extract (a.length + 1) (ba m).size = ba b := by rw [ba_drop, hab]; simp
    have hex2 : (ba m).extract 0 a.length = ba a := by rw [ba_cut, hab]; simp
    have hbl : b.length ≤ 1000000000 := by have := HML.out; rw [← ba_size, hsm] at this; omega
    have hal : a.length ≤ 1000000000 := by have := HML.out; rw [← ba_size, hsm] at this; omega
    have HPA := Lib.hid (num_parse b 0 63 ((w.alloc (.cells #[.string ⟨#[]⟩, .int .i64 0, .bool false] 198)).alloc (.cells #[.string (ba m), .int .i64 (-1), .bool true] 198)) hbl (by omega) (by omega) (HT.out.below HW0.out))
    have HEX1 := Lib.hid hex1
    have HEX2 := Lib.hid hex2
    have hsm2 : (a.length : Int) + 1 ≤ ((ba m).size : Int) := by omega
    have hsm3 : (a.length : Int) ≤ ((ba m).size : Int) := by omega
    have ha0 : (0 : Int) ≤ (a.length : Int) := by omega
    have hge : decide ((0 : Int) ≤ (a.length : Int)) = true := decide_eq_true ha0
    clear hlp g5 hab hbl hsm hex1 hex2
    obtain ⟨A, hA⟩ : ∃ A, a.length = A := ⟨_, rfl⟩
    rw [hA] at hsm2 hsm3 ha0 hge HEX1 HEX2 hal
    rw [hA]
    clear hA
    go_wp2_with fail
    rw [HEX1.out]
    refine HPA.out.mono ?_
    rintro e w3 ⟨rfl, hb3⟩
    have hz3 := hb3.size
    have HBW := Lib.hid (HW0.out.trans (hb3.mono (by simp; omega)))
    have hbk : w3.heap[w.heap.size + 1]? = some (.cells #[.string (ba m), .int .i64 (-1), .bool true] 198 (0, 0)) := by
     have h1 := (MapKept.heap_alloc (w.alloc (.cells #[.string ⟨#[]⟩, .int .i64 0, .bool false] 198)) (.cells #[.string (ba m), .int .i64 (-1), .bool true] 198)).1
     simp only [World.size_alloc] at h1
     exact (hb3.block _ (by simp)).trans h1
    have hbk0 : w3.heap[w.heap.size]? = some (.cells #[.string ⟨#[]⟩, .int .i64 0, .bool false] 198 (0, 0)) := by
     have h1 := (MapKept.heap_alloc w (.cells #[.string ⟨#[]⟩, .int .i64 0, .bool false] 198)).1
     exact (hb3.block _ (by simp; omega)).trans ((heap_alloc_old _ _ (by simp)).trans h1)
    have c0 : w3.cell? ⟨w.heap.size + 1, 0, none⟩ = some (.string (ba m)) := by rw [Lib.cell_of_heap hbk]; rfl
    have c1 : w3.cell? ⟨w.heap.size + 1, 1, none⟩ = some (.int .i64 (-1)) := by rw [Lib.cell_of_heap hbk]; rfl
    have c2 : w3.cell? ⟨w.heap.size + 1, 2, none⟩ = some (.bool true) := by rw [Lib.cell_of_heap hbk]; rfl
    have d0 : w3.cell? ⟨w.heap.size, 0, none⟩ = some (.string ⟨#[]⟩) := by rw [Lib.cell_of_heap hbk0]; rfl
    have d1 : w3.cell? ⟨w.heap.size, 1, none⟩ = some (.int .i64 0) := by rw [Lib.cell_of_heap hbk0]; rfl
    have d2 : w3.cell? ⟨w.heap.size, 2, none⟩ = some (.bool false) := by rw [Lib.cell_of_heap hbk0]; rfl
    have f1 : ∀ i, w3.frozen? ⟨w.heap.size + 1, i, none⟩ = false := fun i => Lib.frozen_of_heap hbk i
    have f0 : ∀ i, w3.frozen? ⟨w.heap.size, i, none⟩ = false := fun i => Lib.frozen_of_heap hbk0 i
    clear hb3 hbk hbk0
    cases hd : decP b 0 63 with
    | none =>
     have HF := Lib.hid (HN2B.out hd)
     clear hd
     go_wp2
     refine bodyPost_ret (v := .agg #[.string (ba m), .int .i64 (-1), .bool true]) (by simp [results, Tryz.results200, go_sem, d0, d1, d2]) rfl ?_
     refine where_fin HF.out ?_
     repeat (first | exact HBW.out | refine Below.setCell ?_ (by simp) _)
    | some v =>
     have HF := Lib.hid (HN3B.out v hd)
     clear hd
     go_wp2
     rw [HEX2.out]
     refine bodyPost_ret (v := .agg #[.string (ba a), .int .i64 v, .bool true]) (by simp [results, Tryz.results200, go_sem, d0, d1, d2]) rfl ?_
     refine where_fin HF.out ?_
     repeat (first | exact HBW.out | refine Below.setCell ?_ (by simp) _)
  | false =>
   have hwd2 : wd = false := by rw [← hwd, h2]; simp
   subst hwd2
   have hmd : m = n := by rw [← hm]; rfl
   subst hmd
   rw [h2] at HSE
   clear hwd hm h1 h2
   go_enter Tryz.func200, Tryz.ntmps200
   go_wp2_with fail
   refine (HSUF.out _).mono ?_
   rintro e w' ⟨rfl, hw⟩
   have hw2 := hw.symm
   subst hw2
   clear hw
   rw [show Lib.hasSuffix (ba m).data.toList (⟨#[42]⟩ : ByteArray).data.toList = false from HSE.out]
   have HW0 := Lib.hid (show Below w.heap.size w ((w.alloc (.cells #[.string ⟨#[]⟩, .int .i64 0, .bool false] 198)).alloc (.cells #[.string (ba m), .int .i64 (-1), .bool false] 198)) from ((Below.refl _ _).alloc (Nat.le_refl _) _).alloc (by simp) _)
   go_wp2_with fail
   refine (HLI.out _).mono ?_
   rintro e w' ⟨rfl, hw⟩
   have hw2 := hw.symm
   subst hw2
   clear hw
   rw [HLV.out]
   cases hlp : lastP 42 m with
   | none =>
    have g5 : lastV 42 m = -1 := by unfold lastV; rw [hlp]
    rw [g5]
    have HF := Lib.hid (HN1.out hlp)
    clear hlp g5
    go_wp2
    go_returns
    exact where_fin HF.out (((Below.refl _ _).alloc (Nat.le_refl _) _).alloc (by simp) _)
   | some q =>
    obtain ⟨a, b⟩ := q
    have hab := (lastP_some hlp).1
    have g5 : lastV 42 m = (a.length : Int) := by unfold lastV; rw [hlp]
    have HN2B := Lib.hid (HN2.out a b hlp)
    have HN3B := Lib.hid (HN3.out a b hlp)
    rw [g5]
    have hsm : (ba m).size = a.length + (b.length + 1) := by rw [ba_size, hab]; simp
    have hex1 : (ba m).extract (a.length + 1) (ba m).size = ba b := by rw [ba_drop, hab]; simp
    have hex2 : (ba m).extract 0 a.length = ba a := by rw [ba_cut, hab]; simp
    have hbl : b.length ≤ 1000000000 := by have := HML.out; rw [← ba_size, hsm] at this; omega
    have hal : a.length ≤ 1000000000 := by have := HML.out; rw [← ba_size, hsm] at this; omega
    have HPA := Lib.hid (num_parse b 0 63 ((w.alloc (.cells #[.string ⟨#[]⟩, .int .i64 0, .bool false] 198)).alloc (.cells #[.string (ba m), .int .i64 (-1), .bool false] 198)) hbl (by omega) (by omega) (HT.out.below HW0.out))
    have HEX1 := Lib.hid hex1
    have HEX2 := Lib.hid hex2
    have hsm2 : (a.length : Int) + 1 ≤ ((ba m).size : Int) := by omega
    have hsm3 : (a.length : Int) ≤ ((ba m).size : Int) := by omega
    have ha0 : (0 : Int) ≤ (a.length : Int) := by omega
    have hge : decide ((0 : Int) ≤ (a.length : Int)) = true := decide_eq_true ha0
    clear hlp g5 hab hbl hsm hex1 hex2
    obtain ⟨A, hA⟩ : ∃ A, a.length = A := ⟨_, rfl⟩
    rw [hA] at hsm2 hsm3 ha0 hge HEX1 HEX2 hal
    rw [hA]
    clear hA
    go_wp2_with fail
    rw [HEX1.out]
    refine HPA.out.mono ?_
    rintro e w3 ⟨rfl, hb3⟩
    have hz3 := hb3.size
    have HBW := Lib.hid (HW0.out.trans (hb3.mono (by simp; omega)))
    have hbk : w3.heap[w.heap.size + 1]? = some (.cells #[.string (ba m), .int .i64 (-1), .bool false] 198 (0, 0)) := by
     have h1 := (MapKept.heap_alloc (w.alloc (.cells #[.string ⟨#[]⟩, .int .i64 0, .bool false] 198)) (.cells #[.string (ba m), .int .i64 (-1), .bool false] 198)).1
     simp only [World.size_alloc] at h1
     exact (hb3.block _ (by simp)).trans h1
    have hbk0 : w3.heap[w.heap.size]? = some (.cells #[.string ⟨#[]⟩, .int .i64 0, .bool false] 198 (0, 0)) := by
     have h1 := (MapKept.heap_alloc w (.cells #[.string ⟨#[]⟩, .int .i64 0, .bool false] 198)).1
     exact (hb3.block _ (by simp; omega)).trans ((heap_alloc_old _ _ (by simp)).trans h1)
    have c0 : w3.cell? ⟨w.heap.size + 1, 0, none⟩ = some (.string (ba m)) := by rw [Lib.cell_of_heap hbk]; rfl
    have c1 : w3.cell? ⟨w.heap.size + 1, 1, none⟩ = some (.int .i64 (-1)) := by rw [Lib.cell_of_heap hbk]; rfl
    have c2 : w3.cell? ⟨w.heap.size + 1, 2, none⟩ = some (.bool false) := by rw [Lib.cell_of_heap hbk]; rfl
    have d0 : w3.cell? ⟨w.heap.size, 0, none⟩ = some (.string ⟨#[]⟩) := by rw [Lib.cell_of_heap hbk0]; rfl
    have d1 : w3.cell? ⟨w.heap.size, 1, none⟩ = some (.int .i64 0) := by rw [Lib.cell_of_heap hbk0]; rfl
    have d2 : w3.cell? ⟨w.heap.size, 2, none⟩ = some (.bool false) := by rw [Lib.cell_of_heap hbk0]; rfl
    have f1 : ∀ i, w3.frozen? ⟨w.heap.size + 1, i, none⟩ = false := fun i => Lib.frozen_of_heap hbk i
    have f0 : ∀ i, w3.frozen? ⟨w.heap.size, i, none⟩ = false := fun i => Lib.frozen_of_heap hbk0 i
    clear hb3 hbk hbk0
    cases hd : decP b 0 63 with
    | none =>
     have HF := Lib.hid (HN2B.out hd)
     clear hd
     go_wp2
     refine bodyPost_ret (v := .agg #[.string (ba m), .int .i64 (-1), .bool false]) (by simp [results, Tryz.results200, go_sem, d0, d1, d2]) rfl ?_
     refine where_fin HF.out ?_
     repeat (first | exact HBW.out | refine Below.setCell ?_ (by simp) _)
    | some v =>
     have HF := Lib.hid (HN3B.out v hd)
     clear hd
     go_wp2
     rw [HEX2.out]
     refine bodyPost_ret (v := .agg #[.string (ba a), .int .i64 v, .bool false]) (by simp [results, Tryz.results200, go_sem, d0, d1, d2]) rfl ?_
     refine where_fin HF.out ?_
     repeat (first | exact HBW.out | refine Below.setCell ?_ (by simp) _)
 ·have g1 : decide ((1 : Int) < ((ba n).size : Int)) = false := decide_eq_false (by rw [ba_size]; omega)
  have hwd2 : wd = false := by rw [← hwd]; simp [h1]
  subst hwd2
  have hmd : m = n := by rw [← hm]; rfl
  subst hmd
  clear hwd hm h1
  go_enter Tryz.func200, Tryz.ntmps200
  have HW0 := Lib.hid (show Below w.heap.size w ((w.alloc (.cells #[.string ⟨#[]⟩, .int .i64 0, .bool false] 198)).alloc (.cells #[.string (ba m), .int .i64 (-1), .bool false] 198)) from ((Below.refl _ _).alloc (Nat.le_refl _) _).alloc (by simp) _)
  go_wp2_with fail
  refine (HLI.out _).mono ?_
  rintro e w' ⟨rfl, hw⟩
  have hw2 := hw.symm
  subst hw2
  clear hw
  rw [HLV.out]
  cases hlp : lastP 42 m with
  | none =>
   have g5 : lastV 42 m = -1 := by unfold lastV; rw [hlp]
   rw [g5]
   have HF := Lib.hid (HN1.out hlp)
   clear hlp g5
   go_wp2
   go_returns
   exact where_fin HF.out (((Below.refl _ _).alloc (Nat.le_refl _) _).alloc (by simp) _)
  | some q =>
   obtain ⟨a, b⟩ := q
   have hab := (lastP_some hlp).1
   have g5 : lastV 42 m = (a.length : Int) := by unfold lastV; rw [hlp]
   have HN2B := Lib.hid (HN2.out a b hlp)
   have HN3B := Lib.hid (HN3.out a b hlp)
   rw [g5]
   have hsm : (ba m).size = a.length + (b.length + 1) := by rw [ba_size, hab]; simp
   have hex1 : (ba m).extract (a.length + 1) (ba m).size = ba b := by rw [ba_drop, hab]; simp
   have hex2 : (ba m).extract 0 a.length = ba a := by rw [ba_cut, hab]; simp
   have hbl : b.length ≤ 1000000000 := by have := HML.out; rw [← ba_size, hsm] at this; omega
   have hal : a.length ≤ 1000000000 := by have := HML.out; rw [← ba_size, hsm] at this; omega
   have HPA := Lib.hid (num_parse b 0 63 ((w.alloc (.cells #[.string ⟨#[]⟩, .int .i64 0, .bool false] 198)).alloc (.cells #[.string (ba m), .int .i64 (-1), .bool false] 198)) hbl (by omega) (by omega) (HT.out.below HW0.out))
   have HEX1 := Lib.hid hex1
   have HEX2 := Lib.hid hex2
   have hsm2 : (a.length : Int) + 1 ≤ ((ba m).size : Int) := by omega
   have hsm3 : (a.length : Int) ≤ ((ba m).size : Int) := by omega
   have ha0 : (0 : Int) ≤ (a.length : Int) := by omega
   have hge : decide ((0 : Int) ≤ (a.length : Int)) = true := decide_eq_true ha0
   clear hlp g5 hab hbl hsm hex1 hex2
   obtain ⟨A, hA⟩ : ∃ A, a.length = A := ⟨_, rfl⟩
   rw [hA] at hsm2 hsm3 ha0 hge HEX1 HEX2 hal
   rw [hA]
   clear hA
   go_wp2_with fail
   rw [HEX1.out]
   refine HPA.out.mono ?_
   rintro e w3 ⟨rfl, hb3⟩
   have hz3 := hb3.size
   have HBW := Lib.hid (HW0.out.trans (hb3.mono (by simp; omega)))
   have hbk : w3.heap[w.heap.size + 1]? = some (.cells #[.string (ba m), .int .i64 (-1), .bool false] 198 (0, 0)) := by
    have h1 := (MapKept.heap_alloc (w.alloc (.cells #[.string ⟨#[]⟩, .int .i64 0, .bool false] 198)) (.cells #[.string (ba m), .int .i64 (-1), .bool false] 198)).1
    simp only [World.size_alloc] at h1
    exact (hb3.block _ (by simp)).trans h1
   have hbk0 : w3.heap[w.heap.size]? = some (.cells #[.string ⟨#[]⟩, .int .i64 0, .bool false] 198 (0, 0)) := by
    have h1 := (MapKept.heap_alloc w (.cells #[.string ⟨#[]⟩, .int .i64 0, .bool false] 198)).1
    exact (hb3.block _ (by simp; omega)).trans ((heap_alloc_old _ _ (by simp)).trans h1)
   have c0 : w3.cell? ⟨w.heap.size + 1, 0, none⟩ = some (.string (ba m)) := by rw [Lib.cell_of_heap hbk]; rfl
   have c1 : w3.cell? ⟨w.heap.size + 1, 1, none⟩ = some (.int .i64 (-1)) := by rw [Lib.cell_of_heap hbk]; rfl
   have c2 : w3.cell? ⟨w.heap.size + 1, 2, none⟩ = some (.bool false) := by rw [Lib.cell_of_heap hbk]; rfl
   have d0 : w3.cell? ⟨w.heap.size, 0, none⟩ = some (.string ⟨#[]⟩) := by rw [Lib.cell_of_heap hbk0]; rfl
   have d1 : w3.cell? ⟨w.heap.size, 1, none⟩ = some (.int .i64 0) := by rw [Lib.cell_of_heap hbk0]; rfl
   have d2 : w3.cell? ⟨w.heap.size, 2, none⟩ = some (.bool false) := by rw [Lib.cell_of_heap hbk0]; rfl
   have f1 : ∀ i, w3.frozen? ⟨w.heap.size + 1, i, none⟩ = false := fun i => Lib.frozen_of_heap hbk i
   have f0 : ∀ i, w3.frozen? ⟨w.heap.size, i, none⟩ = false := fun i => Lib.frozen_of_heap hbk0 i
   clear hb3 hbk hbk0
   cases hd : decP b 0 63 with
   | none =>
    have HF := Lib.hid (HN2B.out hd)
    clear hd
    go_wp2
    refine bodyPost_ret (v := .agg #[.string (ba m), .int .i64 (-1), .bool false]) (by simp [results, Tryz.results200, go_sem, d0, d1, d2]) rfl ?_
    refine where_fin HF.out ?_
    repeat (first | exact HBW.out | refine Below.setCell ?_ (by simp) _)
   | some v =>
    have HF := Lib.hid (HN3B.out v hd)
    clear hd
    go_wp2
    rw [HEX2.out]
    refine bodyPost_ret (v := .agg #[.string (ba a), .int .i64 v, .bool false]) (by simp [results, Tryz.results200, go_sem, d0, d1, d2]) rfl ?_
    refine where_fin HF.out ?_
    repeat (first | exact HBW.out | refine Below.setCell ?_ (by simp) _)
end Go.Proofs.YthidbmeaccpjdaaGreatDoor
end
section
namespace Go.Proofs.YthidbmeaccpjdaaGreatDoor
open Go.RowKit
set_option linter.unusedVariables false
theorem pairG_skip {name : List UInt8} {t : Tok} {r : List Tok} (h : t.kind ≠ 1 ∨ (cutV 61 t.text).2.2 = false) : pairG name (t :: r) = pairG (name ++ t.text) r := by
 conv => lhs; unfold pairG
 have h2 : (if t.kind = 1 then cutP 61 t.text else none) = none := by
  by_cases hk : t.kind = 1
  ·rw [if_pos hk]
   have h3 := h.resolve_left (fun h => h hk)
   unfold cutV at h3
   cases hc : cutP 61 t.text with
   | none => rfl
   | some q => rw [hc] at h3; cases h3
  ·rw [if_neg hk]
 rw [h2]
def restV (b : List UInt8) (r : List Tok) : List UInt8 := match b, r with
 | [], u :: _ => if u.kind = 2 then meanP u else joinP r
 | b, _ => b ++ joinP r
theorem pairG_hit {name a b : List UInt8} {t : Tok} {r : List Tok} (hk : t.kind = 1) (h : cutV 61 t.text = (a, b, true)) : pairG name (t :: r) = some (smallP (name ++ a), restV b r) := by
 conv => lhs; unfold pairG
 rw [if_pos hk]
 unfold cutV at h
 cases hc : cutP 61 t.text with
 | none => rw [hc] at h; injection h with _ h; injection h with _ h; cases h
 | some q =>
  obtain ⟨x, y⟩ := q
  rw [hc] at h
  injection h with h1 h2
  injection h2 with h2 h3
  subst h1; subst h2
  cases y <;> cases r <;> rfl
theorem restV_quoted {u : Tok} {r : List Tok} (h : u.kind = 2) : restV [] (u :: r) = meanP u := by
 show (if u.kind = 2 then meanP u else joinP (u :: r)) = _
 rw [if_pos h]
theorem restV_joined {b : List UInt8} {r : List Tok} (h : b ≠ [] ∨ r = [] ∨ ∃ u r', r = u :: r' ∧ u.kind ≠ 2) : restV b r = b ++ joinP r := by
 cases b with
 | cons x y => rfl
 | nil =>
  cases r with
  | nil => rfl
  | cons u r' =>
   rcases h with h | h | ⟨u', r'', h, h2⟩
   ·exact absurd rfl h
   ·cases h
   ·injection h with h3 h4
    subst h3
    show (if u.kind = 2 then meanP u else joinP (u :: r')) = _
    rw [if_neg h2]
    rfl
def PairPost (w : World) (ts : List Tok) (e : Ending) (w' : World) : Prop := e = .returned (.tuple #[.string (ba (pairP ts).1), .string (ba (pairP ts).2)]) ∧ Below w.heap.size w w'
theorem pair_fin {w w' : World} {ts : List Tok} {a b : List UInt8} {s t : ByteArray} (h : pairP ts = (a, b)) (hs : s = ba a) (ht : t = ba b) (hb : Below w.heap.size w w') : PairPost w ts (.returned (.tuple #[.string s, .string t])) w' := by
 unfold PairPost
 rw [h, hs, ht]
 exact ⟨rfl, hb⟩
structure PaRel (w : World) (ts : List Tok) (k : Nat) (a : List UInt8) (wr : World) : Prop where
 eq : pairG [] ts = pairG a (ts.drop k)
 len : a.length ≤ (joinP (ts.take k)).length
 bel : Below w.heap.size w wr
theorem join_drop_le (ts : List Tok) (k : Nat) : (joinP (ts.drop k)).length ≤ (joinP ts).length := by
 have h : joinP ts = joinP (ts.take k) ++ joinP (ts.drop k) := by
  unfold joinP
  rw [← List.flatMap_append, List.take_append_drop]
 rw [h, List.length_append]
 omega
theorem text_le {ts : List Tok} {k : Nat} (hk : k < ts.length) : ts[k].text.length ≤ (joinP ts).length := by
 have h1 := join_step ts k hk
 have h2 := join_le ts (k + 1)
 rw [h1, List.length_append] at h2
 omega
set_option maxRecDepth 100000 in
set_option maxHeartbeats 4000000 in
theorem pair_any (ts : List Tok) (A : Option Addr) (n c : Nat) (w : World) (hTk : Toks w w.heap.size A n ts) (hn : n ≤ 1000000000) (hnc : n ≤ c) (hcm : c ≤ maxLen) (hj : (joinP ts).length ≤ 500000000) (hT : Tabs w) :
  Calls Tryz.prog 199 #[.slice A n c] w (PairPost w ts) := by
 have HTK := Lib.hid hTk
 have HT := Lib.hid hT
 obtain rfl : n = ts.length := hTk.1
 obtain ⟨n, hn2⟩ : ∃ n, ts.length = n := ⟨_, rfl⟩
 have HN := Lib.hid hn2
 rw [hn2] at hn hnc ⊢
 unfold maxLen at hcm
 have HNC := Lib.hid (And.intro hnc hcm)
 clear hnc hcm
 have HJ := Lib.hid hj
 clear hTk hn2 hj hT
 go_enter Tryz.func199, Tryz.ntmps199
 go_wp2
 go_loopw [4, 12] (fun o i wr => ∃ (k : Nat) (a : List UInt8), k ≤ n ∧ i = .int .i64 (k : Int) ∧ o = .string (ba a) ∧ Hid (PaRel w ts k a wr)) (fun _ i _ => n - (intOf i).toNat)
 case atStart => exact ⟨0, [], Nat.zero_le _, rfl, rfl, Lib.hid ⟨rfl, by simp, Below.refl _ _⟩⟩
 case round =>
  obtain ⟨k, a, hk, rfl, rfl, HR⟩ := hrel
  have hsz := HR.out.bel.size
  by_cases hlt : k < n
  ·have hk2 : (k : Int) < n := by omega
   have hkl : k < ts.length := by rw [HN.out]; exact hlt
   obtain ⟨ad, rfl, hbl, c0, c1, c2⟩ := (HTK.out.below HR.out.bel).2 k hkl
   have HKS0 := Lib.hid (show ∀ W', Below w.heap.size w W' → W'.cell? (ad.add (k * 2)) = some (.int .i64 ts[k].kind) from fun W' hb => by
    obtain ⟨ad2, e2, _, d0, _, _⟩ := (HTK.out.below hb).2 k hkl
    injection e2 with e2
    subst e2
    exact d0)
   have heq := HR.out.eq
   rw [List.drop_eq_getElem_cons hkl] at heq
   have HEQ := Lib.hid heq
   have HST := Lib.hid (join_step ts k hkl)
   have htl := text_le hkl
   have hle := join_le ts (k + 1)
   have hal := HR.out.len
   have HBE := Lib.hid HR.out.bel
   clear heq c2
   obtain ⟨t, ht⟩ : ∃ t, ts[k] = t := ⟨_, rfl⟩
   rw [ht] at c0 c1 HEQ HST htl HKS0
   have htx : t.text.length ≤ 500000000 := by have := HJ.out; omega
   have hax : a.length + t.text.length ≤ 500000000 := by
    have h1 := HJ.out
    rw [HST.out, List.length_append] at hle
    omega
   have HAX := Lib.hid hax
   have HCUT := Lib.hid (cut_any 61 t.text (wr.alloc (.cells #[.int .i64 t.kind, .string (ba t.text)] 94)) (by omega) (HT.out.below (HBE.out.alloc hsz _)))
   have HCL := Lib.hid (cutV_len 61 t.text)
   have HAL := Lib.hid hal
   unfold CutPost at HCUT
   clear ht htl hle hal hax htx hkl HR
   obtain ⟨⟨b1, b2, f⟩, hcv⟩ : ∃ q, cutV 61 t.text = q := ⟨_, rfl⟩
   rw [hcv] at HCUT HCL
   have HCV := Lib.hid hcv
   clear hcv
   by_cases hgo : t.kind = 1 ∧ f = true
   ·obtain ⟨hk1, rfl⟩ := hgo
    have g1 : (t.kind != 1) = false := by simp [hk1]
    have HPP := Lib.hid (show pairP ts = (smallP (a ++ b1), restV b2 (ts.drop (k + 1))) by
     unfold pairP
     rw [HEQ.out, pairG_hit hk1 HCV.out]
     rfl)
    have hap := ba_append a b1
    have hlen : ¬ 9223372036854775807 < (ba a).size + (ba b1).size := by
     rw [ba_size, ba_size]
     have := HAX.out
     have h2 : b1.length ≤ t.text.length := HCL.out.1
     omega
    have hsl : (a ++ b1).length ≤ 1000000000 := by
     have := HAX.out
     have h2 : b1.length ≤ t.text.length := HCL.out.1
     rw [List.length_append]
     omega
    obtain ⟨nm, hnm⟩ : ∃ x, a ++ b1 = x := ⟨_, rfl⟩
    rw [hnm] at hap HPP hsl
    have HSL := Lib.hid hsl
    clear hk1 hnm hsl
    by_cases hq : b2 = [] ∧ ∃ h : k + 1 < n, (ts[k + 1]'(by rw [HN.out]; exact h)).kind = 2
    ·obtain ⟨rfl, hk3, hq2⟩ := hq
     have hk1n : k + 1 < ts.length := by rw [HN.out]; exact hk3
     have HRV := Lib.hid (show restV [] (ts.drop (k + 1)) = meanP ts[k + 1] by rw [List.drop_eq_getElem_cons hk1n, restV_quoted hq2])
     have HKC := Lib.hid (fun (W' : World) (hb : Below w.heap.size w W') => (HTK.out.below hb).2 (k + 1) hk1n)
     have hul := text_le hk1n
     obtain ⟨u, hu⟩ : ∃ u, ts[k + 1] = u := ⟨_, rfl⟩
     rw [hu] at HRV hul hq2
     have HKE := Lib.hid (show ∀ W', Below w.heap.size w W' → W'.cell? (ad.add ((k + 1) * 2)) = some (.int .i64 u.kind) ∧ W'.cell? ⟨(ad.add ((k + 1) * 2)).block, (ad.add ((k + 1) * 2)).off + 1, none⟩ = some (.string (ba u.text)) from fun W' hb => by
      obtain ⟨ad2, e2, _, d0, d1, _⟩ := HKC.out W' hb
      injection e2 with e2
      subst e2
      rw [hu] at d0 d1
      exact ⟨d0, d1⟩)
     have hun : u.text.length ≤ 1000000000 := by have := HJ.out; omega
     have HUN := Lib.hid hun
     have g4 : (u.kind == 2) = true := by simp [hq2]
     have g5 : (ba ([] : List UInt8)).toList.isEmpty = true := by rw [ba_toList]; rfl
     have hkk : (k : Int) + 1 < (n : Int) := by omega
     clear hu hul hun hq2 HKC hk1n
     go_wp2_with fail
     refine HCUT.out.mono ?_
     rintro e w2 ⟨rfl, nn, rfl⟩
     have HB1 := Lib.hid (below_drewN (HBE.out.alloc hsz (.cells #[.int .i64 t.kind, .string (ba t.text)] 94)) nn)
     obtain ⟨W, hW⟩ : ∃ W, (wr.alloc (.cells #[.int .i64 t.kind, .string (ba t.text)] 94)).drewN nn = W := ⟨_, rfl⟩
     rw [hW] at HB1
     have hWc0 : W.cell? ⟨wr.heap.size, 0, none⟩ = some (.int .i64 t.kind) := by rw [← hW]; simp
     have hWc1 : W.cell? ⟨wr.heap.size, 1, none⟩ = some (.string (ba t.text)) := by rw [← hW]; simp
     have hWe := HKE.out W HB1.out
     obtain ⟨hWe0, hWe1⟩ := hWe
     rw [hW]
     clear hW
     go_wp2
     have hw1 : IntKind.i64.wrap ((k : Int) + 1) = (k : Int) + 1 := IntWalk.i64_in _ (by omega)
     have ht1 : ((k : Int) + 1).toNat = k + 1 := by omega
     have hw2 : (0 : Int) ≤ (k : Int) + 1 := by omega
     go_region_held3 (fun w' => w'.cell? (ad.add ((k + 1) * 2)) = some (.int .i64 u.kind) ∧ w'.cell? ⟨(ad.add ((k + 1) * 2)).block, (ad.add ((k + 1) * 2)).off + 1, none⟩ = some (.string (ba u.text)))
      (first
       | exact HKE.out _ (HB1.out.drew)
       | exact HKE.out _ HV1.out
       | exact HKE.out _ HV2.out)
      (first
       | (go_simp; go_at_call 90; refine (csmall_any nm W.drew HSL.out).mono ?_; rintro e v1 ⟨rfl, hb⟩; (
         have HV1 := Lib.hid (show Below w.heap.size w v1 from (HB1.out.drew).trans (hb.mono HB1.out.size))
         clear hb))
       | (go_simp; go_at_call 244; refine (tvalue_any u v1 HUN.out).mono ?_; rintro e v2 ⟨rfl, hb⟩; (
         have HV2 := Lib.hid (show Below w.heap.size w v2 from HV1.out.trans (hb.mono HV1.out.size))
         clear hb)))
     all_goals
      go_wp2
      go_ret2
      exact pair_fin (HPP.out.trans (by rw [HRV.out])) rfl rfl HV2.out
    ·have HRV := Lib.hid (show restV b2 (ts.drop (k + 1)) = b2 ++ joinP (ts.drop (k + 1)) by
      refine restV_joined ?_
      by_cases hb2 : b2 = []
      ·refine .inr ?_
       by_cases hk3 : k + 1 < n
       ·have hk1n : k + 1 < ts.length := by rw [HN.out]; exact hk3
        exact .inr ⟨ts[k + 1], _, List.drop_eq_getElem_cons hk1n, fun h => hq ⟨hb2, hk3, h⟩⟩
       ·exact .inl (List.drop_of_length_le (by rw [HN.out]; omega))
      ·exact .inl hb2)
     have hway : (ba b2).toList.isEmpty = false ∨ ((ba b2).toList.isEmpty = true ∧ ¬ (k : Int) + 1 < (n : Int)) ∨ ((ba b2).toList.isEmpty = true ∧ (k : Int) + 1 < (n : Int) ∧ ∃ v : Int, (v == 2) = false ∧ ∀ W', Below w.heap.size w W' → W'.cell? (ad.add ((k + 1) * 2)) = some (.int .i64 v)) := by
      rw [ba_toList]
      cases b2 with
      | cons x y => exact .inl rfl
      | nil =>
       by_cases hk3 : k + 1 < n
       ·have hk1n : k + 1 < ts.length := by rw [HN.out]; exact hk3
        refine .inr (.inr ⟨rfl, by omega, ts[k + 1].kind, ?_, fun W' hb => ?_⟩)
        ·have : ¬ ts[k + 1].kind = 2 := fun h => hq ⟨rfl, hk3, h⟩
         simpa using this
        ·obtain ⟨ad2, e2, _, d0, _, _⟩ := (HTK.out.below hb).2 (k + 1) hk1n
         injection e2 with e2
         subst e2
         exact d0
       ·exact .inr (.inl ⟨rfl, by omega⟩)
     have HTD := Lib.hid (show ∀ (W' : World), Below w.heap.size w W' → Toks W' w.heap.size (some (ad.add ((k + 1) * 2))) (n - (k + 1)) (ts.drop (k + 1)) from fun W' hb => by
      have h := (HTK.out.below hb).cutB (k + 1) (by rw [HN.out]; omega)
      rw [HN.out] at h
      exact h)
     have hjl := join_drop_le ts (k + 1)
     have HJD := Lib.hid (show (joinP (ts.drop (k + 1))).length ≤ 500000000 by have := HJ.out; omega)
     obtain ⟨td, htd⟩ : ∃ x, ts.drop (k + 1) = x := ⟨_, rfl⟩
     have HTDN := Lib.hid (show td.length = n - (k + 1) by rw [← htd, List.length_drop, HN.out])
     rw [htd] at HRV HJD HPP
     simp only [htd] at HTD
     have hap2 := ba_append b2 (joinP td)
     have hlen2 : ¬ 9223372036854775807 < (ba b2).size + (ba (joinP td)).size := by
      rw [ba_size, ba_size]
      have h1 := HJD.out
      have h2 : b2.length ≤ t.text.length := HCL.out.2
      have h3 := HAX.out
      omega
     have hcap : (c = k + 1 ∧ td = []) ∨ ¬ c = k + 1 := by
      by_cases h : c = k + 1
      ·refine .inl ⟨h, List.eq_nil_of_length_eq_zero ?_⟩
       have := HNC.out.1
       rw [HTDN.out]
       omega
      ·exact .inr h
     have hn9 : (n : Int) ≤ 1000000000 := by omega
     have hkn : (k : Int) + 1 ≤ (n : Int) := by omega
     have hkn2 : k + 1 ≤ n := by omega
     clear hq hjl htd
     rcases hcap with ⟨hce, htd0⟩ | hce
     ·subst hce
      subst htd0
      have HZ0 := Lib.hid (show n - (k + 1) = ([] : List Tok).length by have := HNC.out.1; simp; omega)
      rcases hway with g6 | ⟨g6, g7⟩ | ⟨g6, g7, v, g8, hcv8⟩
      all_goals
       go_wp2_with fail
       refine HCUT.out.mono ?_
       rintro e w2 ⟨rfl, nn, rfl⟩
       have HB1 := Lib.hid (below_drewN (HBE.out.alloc hsz (.cells #[.int .i64 t.kind, .string (ba t.text)] 94)) nn)
       obtain ⟨W, hW⟩ : ∃ W, (wr.alloc (.cells #[.int .i64 t.kind, .string (ba t.text)] 94)).drewN nn = W := ⟨_, rfl⟩
       rw [hW] at HB1
       have hWc0 : W.cell? ⟨wr.heap.size, 0, none⟩ = some (.int .i64 t.kind) := by rw [← hW]; simp
       have hWc1 : W.cell? ⟨wr.heap.size, 1, none⟩ = some (.string (ba t.text)) := by rw [← hW]; simp
       first | (have hWe := hcv8 W HB1.out; clear hcv8) | skip
       rw [hW]
       clear hW
       go_wp2
       clear hWc0 hWc1
       have hw1 : IntKind.i64.wrap ((k : Int) + 1) = (k : Int) + 1 := IntWalk.i64_in _ (by omega)
       have ht1 : ((k : Int) + 1).toNat = k + 1 := by omega
       have hw2 : (0 : Int) ≤ (k : Int) + 1 := by omega
       go_region_held3 (fun w' => w'.cell? (ad.add (k * 2)) = some (.int .i64 t.kind))
        (first
         | exact HKS0.out _ (HB1.out.drew)
         | exact HKS0.out _ HV1.out
         | exact HKS0.out _ HV2.out)
        (first
         | (go_simp; go_at_call 90; refine (csmall_any nm W.drew HSL.out).mono ?_; rintro e v1 ⟨rfl, hb⟩; (
           have HV1 := Lib.hid (show Below w.heap.size w v1 from (HB1.out.drew).trans (hb.mono HB1.out.size))
           clear hb))
         | (go_simp; go_at_call 152; refine (tjoin_any [] _ _ _ v1 ⟨HZ0.out, fun k hk => by simp at hk⟩ (by omega) (by simp [joinP])).mono ?_; rintro e v2 ⟨rfl, hb⟩; (
           have HV2 := Lib.hid (show Below w.heap.size w v2 from HV1.out.trans (hb.mono HV1.out.size))
           clear hb)))
       all_goals
        go_wp2
        go_ret2
        exact pair_fin (HPP.out.trans (by rw [HRV.out])) rfl rfl HV2.out
     ·have HTN := Lib.hid (show n - (k + 1) ≤ 1000000000 by omega)
      have HTJ := Lib.hid (show (joinP td).length ≤ 1000000000 by have := HJD.out; omega)
      rcases hway with g6 | ⟨g6, g7⟩ | ⟨g6, g7, v, g8, hcv8⟩
      all_goals
       go_wp2_with fail
       refine HCUT.out.mono ?_
       rintro e w2 ⟨rfl, nn, rfl⟩
       have HB1 := Lib.hid (below_drewN (HBE.out.alloc hsz (.cells #[.int .i64 t.kind, .string (ba t.text)] 94)) nn)
       obtain ⟨W, hW⟩ : ∃ W, (wr.alloc (.cells #[.int .i64 t.kind, .string (ba t.text)] 94)).drewN nn = W := ⟨_, rfl⟩
       rw [hW] at HB1
       have hWc0 : W.cell? ⟨wr.heap.size, 0, none⟩ = some (.int .i64 t.kind) := by rw [← hW]; simp
       have hWc1 : W.cell? ⟨wr.heap.size, 1, none⟩ = some (.string (ba t.text)) := by rw [← hW]; simp
       first | (have hWe := hcv8 W HB1.out; clear hcv8) | skip
       rw [hW]
       clear hW
       go_wp2
       clear hWc0 hWc1
       have hw1 : IntKind.i64.wrap ((k : Int) + 1) = (k : Int) + 1 := IntWalk.i64_in _ (by omega)
       have ht1 : ((k : Int) + 1).toNat = k + 1 := by omega
       have hw2 : (0 : Int) ≤ (k : Int) + 1 := by omega
       go_region_held3 (fun w' => w'.cell? (ad.add (k * 2)) = some (.int .i64 t.kind))
        (first
         | exact HKS0.out _ (HB1.out.drew)
         | exact HKS0.out _ HV1.out
         | exact HKS0.out _ HV2.out)
        (first
         | (go_simp; go_at_call 90; refine (csmall_any nm W.drew HSL.out).mono ?_; rintro e v1 ⟨rfl, hb⟩; (
           have HV1 := Lib.hid (show Below w.heap.size w v1 from (HB1.out.drew).trans (hb.mono HB1.out.size))
           clear hb))
         | (go_simp; go_at_call 152; refine (tjoin_any td _ _ _ v1 ((HTD.out v1 HV1.out).more HV1.out.size) HTN.out HTJ.out).mono ?_; rintro e v2 ⟨rfl, hb⟩; (
           have HV2 := Lib.hid (show Below w.heap.size w v2 from HV1.out.trans (hb.mono HV1.out.size))
           clear hb)))
       all_goals
        go_wp2
        go_ret2
        exact pair_fin (HPP.out.trans (by rw [HRV.out])) rfl rfl HV2.out
   ·have HE := Lib.hid (show pairG [] ts = pairG (a ++ t.text) (ts.drop (k + 1)) by
     rw [HEQ.out, pairG_skip]
     by_cases h : t.kind = 1
     ·refine .inr ?_
      rw [HCV.out]
      cases f with
      | true => exact absurd ⟨h, rfl⟩ hgo
      | false => rfl
     ·exact .inl h)
    have hap := ba_append a t.text
    have hlen : ¬ 9223372036854775807 < (ba a).size + (ba t.text).size := by
     rw [ba_size, ba_size]
     have := HAX.out
     omega
    have HFIN := Lib.hid (show ∀ W', Below w.heap.size w W' → PaRel w ts (k + 1) (a ++ t.text) W' from fun W' hb => ⟨HE.out, by rw [HST.out, List.length_append, List.length_append]; have := HAL.out; omega, hb⟩)
    by_cases hk1 : t.kind = 1
    ·have g1 : (t.kind != 1) = false := by simp [hk1]
     have hf : f = false := by
      cases f with
      | true => exact absurd ⟨hk1, rfl⟩ hgo
      | false => rfl
     subst hf
     clear hgo hk1
     go_wp2_with fail
     refine HCUT.out.mono ?_
     rintro e w2 ⟨rfl, nn, rfl⟩
     go_wp2
     go_roundw
     case rel => exact ⟨k + 1, a ++ t.text, by omega, by go_num, rfl, Lib.hid (HFIN.out _ (below_drewN (HBE.out.alloc hsz _) nn))⟩
     case measure => simp [intOf] <;> omega
    ·have g1 : (t.kind != 1) = true := by simpa using hk1
     clear hgo hk1
     go_wp2_with fail
     refine HCUT.out.mono ?_
     rintro e w2 ⟨rfl, nn, rfl⟩
     go_wp2
     go_roundw
     case rel => exact ⟨k + 1, a ++ t.text, by omega, by go_num, rfl, Lib.hid (HFIN.out _ (below_drewN (HBE.out.alloc hsz _) nn))⟩
     case measure => simp [intOf] <;> omega
  ·obtain rfl : k = n := by omega
   have HF := Lib.hid (show pairP ts = ([], []) by
    unfold pairP
    rw [HR.out.eq, List.drop_of_length_le (by rw [HN.out]; exact Nat.le_refl _)]
    rfl)
   go_wp2
   go_ret2
   exact pair_fin HF.out rfl rfl HR.out.bel
end Go.Proofs.YthidbmeaccpjdaaGreatDoor
end
section
namespace Go.Proofs.YthidbmeaccpjdaaGreatDoor
open Go.RowKit
set_option linter.unusedVariables false
theorem rows_snoc : ∀ (l : List Tok) (t : Tok), rowsP (l ++ [t]) = if semiB t = true then rowsP l ++ [[]] else (rowsP l).dropLast ++ [(rowsP l).getLast (rowsP_ne l) ++ [t]]
 | [], t => by
  show rowsP [t] = _
  unfold rowsP
  by_cases h : semiB t = true
  ·rw [if_pos h, if_pos h]; rfl
  ·rw [if_neg h, if_neg h]; rfl
 | a :: r, t => by
  have ih := rows_snoc r t
  have hne := rowsP_ne r
  by_cases ha : semiB a = true
  ·have e1 : rowsP (a :: r) = [] :: rowsP r := by
    conv => lhs; unfold rowsP
    rw [if_pos ha]
   have e2 : rowsP (a :: (r ++ [t])) = [] :: rowsP (r ++ [t]) := by
    conv => lhs; unfold rowsP
    rw [if_pos ha]
   show rowsP (a :: (r ++ [t])) = _
   rw [e2, ih]
   by_cases h : semiB t = true
   ·rw [if_pos h, if_pos h, e1]; rfl
   ·rw [if_neg h, if_neg h]
    simp only [e1]
    rw [List.dropLast_cons_of_ne_nil hne, List.getLast_cons hne]
    rfl
  ·obtain ⟨x, y, hxy⟩ : ∃ x y, rowsP r = x :: y := by
    cases h : rowsP r with
    | nil => exact absurd h hne
    | cons x y => exact ⟨x, y, rfl⟩
   have e1 : rowsP (a :: r) = (a :: x) :: y := by
    conv => lhs; unfold rowsP
    rw [if_neg ha, hxy]
   show rowsP (a :: (r ++ [t])) = _
   have e2 : ∀ p q, rowsP (r ++ [t]) = p :: q → rowsP (a :: (r ++ [t])) = (a :: p) :: q := fun p q h => by
    conv => lhs; unfold rowsP
    rw [if_neg ha, h]
   by_cases h : semiB t = true
   ·rw [if_pos h] at ih ⊢
    rw [e2 x (y ++ [[]]) (by rw [ih, hxy]; rfl), e1]
    rfl
   ·rw [if_neg h] at ih ⊢
    simp only [e1]
    cases y with
    | nil =>
     rw [e2 (x ++ [t]) [] (by rw [ih]; simp [hxy])]
     simp
    | cons y1 y2 =>
     rw [e2 x ((y1 :: y2).dropLast ++ [(y1 :: y2).getLast (by simp) ++ [t]]) (by rw [ih]; simp [hxy])]
     simp
structure RowsAt (w : World) (B C : Nat) (v : Value) (rs : List (List Tok)) (xs : List Value) : Prop where
 own : w.ownsRow B 90 1 v rs.length xs
 len : xs.length = rs.length
 each : ∀ i (hi : i < rs.length), OwnToks w C (xs.getD i .nilFunc) rs[i]
 dist : ∀ i j b, i < j → j < rs.length → (xs.getD i .nilFunc).ownBlock = some b → (xs.getD j .nilFunc).ownBlock ≠ some b
theorem row_info : (Tryz.prog.info? 90).map (fun i => (i.zero, i.size, i.bytes)) = some (some (.slice none 0 0), 1, 24) := by kernel_rfl
theorem RowsAt.below {w w' : World} {B C : Nat} {v : Value} {rs : List (List Tok)} {xs : List Value} (h : RowsAt w B C v rs xs) (hb : Below w.heap.size w w') : RowsAt w' B C v rs xs :=
 ⟨ownsRow_block h.own fun b e => hb.block b (h.own.lt b e).2, h.len, fun i hi => (h.each i hi).below hb, h.dist⟩
theorem own_ne {w : World} {B B' : Nat} {e e' : TypeId} {sz sz' n n' : Nat} {v v' : Value} {xs xs' : List Value} (h : w.ownsRow B e sz v n xs) (h' : w.ownsRow B' e' sz' v' n' xs') (he : e ≠ e') {b : Nat} (hb : v.ownBlock = some b) : v'.ownBlock ≠ some b := by
 intro hb'
 rcases h.2 with ⟨rfl, _⟩ | ⟨g, cap, cur, rfl, _, hg, _⟩
 ·cases hb
 ·rcases h'.2 with ⟨rfl, _⟩ | ⟨g', cap', cur', rfl, _, hg', _⟩
  ·cases hb'
  ·have e1 : g = b := Option.some.inj hb
   have e2 : g' = b := Option.some.inj hb'
   subst e1; subst e2
   rw [hg] at hg'
   injection Option.some.inj hg' with _ h3
   exact he h3
theorem getD_snoc_lt {xs : List Value} {x : Value} {i : Nat} (h : i < xs.length) : (xs ++ [x]).getD i .nilFunc = xs.getD i .nilFunc := by
 rw [List.getD_eq_getElem?_getD, List.getD_eq_getElem?_getD, List.getElem?_append_left h]
theorem getD_snoc_eq {xs : List Value} {x : Value} : (xs ++ [x]).getD xs.length .nilFunc = x := by
 rw [List.getD_eq_getElem?_getD, List.getElem?_append_right (Nat.le_refl _), Nat.sub_self]
 rfl
theorem RowsAt.snocNil {w w' : World} {B C : Nat} {v v' : Value} {rs : List (List Tok)} {xs : List Value} (h : RowsAt w B C v rs xs) (hg : w.grownBy w' v.ownBlock) (hown : w'.ownsRow B 90 1 v' (rs.length + 1) (xs ++ [.slice none 0 0])) :
  RowsAt w' B C v' (rs ++ [[]]) (xs ++ [.slice none 0 0]) := by
 refine ⟨by rw [List.length_append]; exact hown, by rw [List.length_append, List.length_append, h.len]; rfl, fun i hi => ?_, fun i j b hij hj hb => ?_⟩
 ·rw [List.length_append] at hi
  by_cases hlt : i < rs.length
  ·rw [getD_snoc_lt (by rw [h.len]; exact hlt), List.getElem_append_left hlt]
   refine (h.each i hlt).block fun b hb => hg.block b ((h.each i hlt).row.lt b hb).2 fun e => ?_
   exact own_ne (h.each i hlt).row h.own (by decide) hb e.symm
  ·have : i = xs.length := by rw [h.len]; simp at hi; omega
   subst this
   rw [getD_snoc_eq]
   have e : (rs ++ [[]])[xs.length]'(by simp [h.len]) = ([] : List Tok) := by
    rw [List.getElem_append_right (by rw [h.len]; exact Nat.le_refl _)]
    simp
   rw [e]
   exact OwnToks.nil_ _ _
 ·rw [List.length_append] at hj
  by_cases hlt : j < rs.length
  ·rw [getD_snoc_lt (by rw [h.len]; exact hlt)]
   rw [getD_snoc_lt (by rw [h.len]; omega)] at hb
   exact h.dist i j b hij hlt hb
  ·have : j = xs.length := by rw [h.len]; simp at hj; omega
   subst this
   rw [getD_snoc_eq]
   simp [Value.ownBlock]
theorem RowsAt.setLast {w w2 : World} {B C g m c : Nat} {rs : List (List Tok)} {xs : List Value} {r r' : List Tok} {v' : Value} (h : RowsAt w B C (.slice (some ⟨g, 0, none⟩) m c) (rs ++ [r]) xs)
  (hg : w.grownBy w2 (xs.getD rs.length .nilFunc).ownBlock) (hown : OwnToks w2 C v' r') (hnew : v'.ownBlock = (xs.getD rs.length .nilFunc).ownBlock ∨ ∃ k, v'.ownBlock = some k ∧ w.heap.size ≤ k) :
  RowsAt (w2.setCell ⟨g, rs.length, none⟩ v') B C (.slice (some ⟨g, 0, none⟩) m c) (rs ++ [r']) (xs.set rs.length v') := by
 have hxl : xs.length = rs.length + 1 := by rw [h.len, List.length_append]; rfl
 have hm : m = rs.length + 1 := by
  rcases h.own.2 with ⟨e, _⟩ | ⟨g', cap, cur, e, _⟩
  ·cases e
  ·injection e with _ e2 _
   rw [e2, List.length_append]; rfl
 have hgl := (h.own.lt g rfl)
 have hlast := h.each rs.length (by simp)
 have hgk : ∀ b, (xs.getD rs.length .nilFunc).ownBlock = some b → b ≠ g := fun b hb e => by
  subst e
  exact own_ne hlast.row h.own (by decide) hb rfl
 have ho2 : w2.ownsRow B 90 1 (.slice (some ⟨g, 0, none⟩) m c) (rs ++ [r]).length xs := h.own.kept hg (.inr fun e => by
  have := e.symm
  exact hgk g this rfl)
 have hv'g : ∀ b, v'.ownBlock = some b → b ≠ g := fun b hb => by
  rcases hnew with hn | ⟨k, hk, hk2⟩
  ·exact hgk b (by rw [← hn]; exact hb)
  ·rw [hk] at hb
   have : k = b := Option.some.inj hb
   omega
 have hlen : (rs ++ [r]).length = (rs ++ [r']).length := by rw [List.length_append, List.length_append]; rfl
 refine ⟨?_, by rw [List.length_set, h.len, hlen], fun i hi => ?_, fun i j b hij hj hb => ?_⟩
 ·have e : m = (rs ++ [r]).length := by rw [hm, List.length_append]; rfl
  subst e
  rw [← hlen]
  exact (ho2.stored rs.length v').1
 ·rw [List.length_append] at hi
  by_cases hlt : i < rs.length
  ·have e1 : (xs.set rs.length v').getD i .nilFunc = xs.getD i .nilFunc := by
    rw [List.getD_eq_getElem?_getD, List.getD_eq_getElem?_getD, List.getElem?_set_ne (by omega)]
   rw [e1, List.getElem_append_left hlt]
   have h1 := h.each i (by rw [List.length_append]; omega)
   rw [List.getElem_append_left hlt] at h1
   refine h1.block fun b hb => ?_
   have hbg : b ≠ g := fun e => by subst e; exact own_ne h1.row h.own (by decide) hb rfl
   rw [heap_setCell_other _ _ _ _ hbg]
   refine hg.block b (h1.row.lt b hb).2 fun e => ?_
   exact h.dist i rs.length b hlt (by simp) hb e.symm
  ·have : i = rs.length := by simp at hi; omega
   subst this
   have e1 : (xs.set rs.length v').getD rs.length .nilFunc = v' := by
    rw [List.getD_eq_getElem?_getD, List.getElem?_set_self (by omega)]
    rfl
   have e2 : (rs ++ [r'])[rs.length]'(by simp) = r' := by
    rw [List.getElem_append_right (Nat.le_refl _)]
    simp
   rw [e1, e2]
   exact hown.block fun b hb => heap_setCell_other _ _ _ _ (hv'g b hb)
 ·rw [List.length_append] at hj
  have e1 : (xs.set rs.length v').getD i .nilFunc = xs.getD i .nilFunc := by
   have : i < rs.length := by simp at hj; omega
   rw [List.getD_eq_getElem?_getD, List.getD_eq_getElem?_getD, List.getElem?_set_ne (by omega)]
  rw [e1] at hb
  have hil : i < rs.length := by simp at hj; omega
  by_cases hlt : j < rs.length
  ·have e2 : (xs.set rs.length v').getD j .nilFunc = xs.getD j .nilFunc := by
    rw [List.getD_eq_getElem?_getD, List.getD_eq_getElem?_getD, List.getElem?_set_ne (by omega)]
   rw [e2]
   exact h.dist i j b hij (by rw [List.length_append]; omega) hb
  ·have : j = rs.length := by simp at hj; omega
   subst this
   have e2 : (xs.set rs.length v').getD rs.length .nilFunc = v' := by
    rw [List.getD_eq_getElem?_getD, List.getElem?_set_self (by omega)]
    rfl
   rw [e2]
   rcases hnew with hn | ⟨k, hk, hk2⟩
   ·rw [hn]
    exact h.dist i rs.length b hij (by simp) hb
   ·rw [hk]
    intro e
    have e3 : k = b := Option.some.inj e
    have h1 := h.each i (by rw [List.length_append]; omega)
    have := (h1.row.lt b hb).2
    omega
set_option maxRecDepth 100000 in
set_option maxHeartbeats 4000000 in
theorem wp_pushTokN {o : Oper} {a : Act} {K : Act → World → Prop} {W : World} {Q : Exit → Act → World → Prop} {B : Nat} {v : Value} {ts : List (Tok)} {x0 : Int} {x1 : List UInt8} (hT : OwnToks W B v ts) (hB : B ≤ W.heap.size) (hf : TokOk (⟨x0, x1⟩ : Tok))
  (hlen : ts.length ≤ 1000000000) (s y : Operand) (c : Nat)
  (ho : o.op = .call { callee := .builtin .append, args := #[s, y], argTypes := #[90, 90] }) (hs : a.eval s = v) (hx : a.eval y = .slice (some ⟨W.heap.size, 0, none⟩) 1 c)
  (h : ∀ v' w', OwnToks w' B v' (ts ++ [(⟨x0, x1⟩ : Tok)]) → W.grownBy w' v.ownBlock → (v'.ownBlock = v.ownBlock ∨ ∃ k, v'.ownBlock = some k ∧ W.heap.size ≤ k) → K (a.put o.dst v') w') : o.wp Tryz.prog a (W.alloc (.cells #[.int .i64 x0, .string (ba x1)] 94)) K Q := by
 obtain ⟨i0, hi, hz0, hz1, hz2⟩ := info_parts tok_info
 obtain ⟨v', w', hrun, h1, h2, _, h4⟩ := run_append_own_at (P := Tryz.prog) (W.alloc (.cells #[.int .i64 x0, .string (ba x1)] 94)) B 90 o.type 94 i0 _ 2 24 Tryz.underlying90 hi hz0 hz1 hz2 rfl (by omega) v ts.length (ts.flatMap tokCells) (World.ownsRow.alloc hT.row _) ⟨W.heap.size, 0, none⟩ 1 c (tokCells (⟨x0, x1⟩ : Tok)) rfl (World.news_of_block (MapKept.heap_alloc W _).1) (fun u hu => tok_one [(⟨x0, x1⟩ : Tok)] u (by simpa using hu)) (by simp only [maxLen]; omega) (by omega) (by simp; omega)
 have h5 := World.grownBy_alloc W (.cells #[.int .i64 x0, .string (ba x1)] 94) v.ownBlock
 unfold Oper.wp execOp
 simp only [ho, resolve, invoke, builtin, Sem.run_bind, Sem.run_pure, Result.andThen_ok, List.map_toArray, List.map_cons, List.map_nil, hs, hx, hrun]
 refine h v' w' ⟨by simpa using h1, fun t ht => ?_⟩ ⟨h2.os.trans h5.os, h2.tape.trans h5.tape, h2.output.trans h5.output, Nat.le_trans h5.size h2.size, fun k hk hne => (h2.block k (by simp; omega) hne).trans (h5.block k hk hne)⟩ ?_
 ·rcases List.mem_append.1 ht with ht | ht
  ·exact hT.each t ht
  ·rw [List.mem_singleton] at ht; subst ht; exact hf
 ·rcases h4 with h4 | h4
  ·exact .inl h4
  ·exact .inr ⟨_, h4, by simp⟩
theorem step_pushTokN {ops : Array Oper} {o : Oper} {a : Act} {W : World} {K : Act → World → Prop} {Q : Exit → Act → World → Prop} {E : Prop} {B : Nat} {v : Value} {ts : List (Tok)} {x0 : Int} {x1 : List UInt8} (hT : OwnToks W B v ts) (hB : B ≤ W.heap.size) (hf : TokOk (⟨x0, x1⟩ : Tok))
  (hlen : ts.length ≤ 1000000000) (hgd : o.guard = none) (s y : Operand) (c : Nat)
  (ho : o.op = .call { callee := .builtin .append, args := #[s, y], argTypes := #[90, 90] }) (hs : a.eval s = v) (hx : a.eval y = .slice (some ⟨W.heap.size, 0, none⟩) 1 c)
  (h : ∀ v' w', OwnToks w' B v' (ts ++ [(⟨x0, x1⟩ : Tok)]) → W.grownBy w' v.ownBlock → (v'.ownBlock = v.ownBlock ∨ ∃ k, v'.ownBlock = some k ∧ W.heap.size ≤ k) → K (a.put o.dst v') w') :
  if Region.wanted o (yielded ops a.tmps) = true then Oper.wp Tryz.prog o a (W.alloc (.cells #[.int .i64 x0, .string (ba x1)] 94)) K Q else E := by
 have hw : Region.wanted o (yielded ops a.tmps) = true := by simp [Region.wanted, hgd]
 rw [if_pos hw]
 exact wp_pushTokN hT hB hf hlen s y c ho hs hx h
set_option maxRecDepth 100000 in
set_option maxHeartbeats 4000000 in
theorem wpList_pushNil {ops : Array Oper} {rest : List Oper} {o : Oper} {a : Act} {W : World} {Q : Exit → Act → World → Prop} {B C : Nat} {v : Value} {rs : List (List Tok)} {xs : List Value} (hT : RowsAt W B C v rs xs) (hB : B ≤ W.heap.size)
  (hlen : rs.length ≤ 1000000000) (hgd : o.guard = none) (s y : Operand) (c : Nat)
  (ho : o.op = .call { callee := .builtin .append, args := #[s, y], argTypes := #[167, 167] }) (hs : a.eval s = v) (hx : a.eval y = .slice (some ⟨W.heap.size, 0, none⟩) 1 c)
  (h : ∀ v' w', RowsAt w' B C v' (rs ++ [[]]) (xs ++ [.slice none 0 0]) → W.grownBy w' v.ownBlock → (v'.ownBlock = v.ownBlock ∨ ∃ k, v'.ownBlock = some k ∧ W.heap.size ≤ k) → wpList Tryz.prog ops Q rest (a.put o.dst v') w') :
  wpList Tryz.prog ops Q (o :: rest) a (W.alloc (.cells #[.slice none 0 0] 90)) := by
 refine wpList_plain hgd fun K hK => ?_
 obtain ⟨i0, hi, hz0, hz1, hz2⟩ := info_parts row_info
 obtain ⟨v', w', hrun, h1, h2, _, h4⟩ := run_append_own_at (P := Tryz.prog) (W.alloc (.cells #[.slice none 0 0] 90)) B 167 o.type 90 i0 _ 1 24 Tryz.underlying167 hi hz0 hz1 hz2 rfl (by omega) v rs.length xs (World.ownsRow.alloc hT.own _) ⟨W.heap.size, 0, none⟩ 1 c [.slice none 0 0] rfl (World.news_of_block (MapKept.heap_alloc W _).1) (fun u hu => by simp at hu; subst hu; rfl) (by simp only [maxLen]; omega) (by omega) (by simp; omega)
 have h5 := World.grownBy_alloc W (.cells #[.slice none 0 0] 90) v.ownBlock
 have h6 : W.grownBy w' v.ownBlock := ⟨h2.os.trans h5.os, h2.tape.trans h5.tape, h2.output.trans h5.output, Nat.le_trans h5.size h2.size, fun k hk hne => (h2.block k (by simp; omega) hne).trans (h5.block k hk hne)⟩
 unfold Oper.wp execOp
 simp only [ho, resolve, invoke, builtin, Sem.run_bind, Sem.run_pure, Result.andThen_ok, List.map_toArray, List.map_cons, List.map_nil, hs, hx, hrun]
 refine hK _ _ (h v' w' (hT.snocNil h6 h1) h6 ?_)
 rcases h4 with h4 | h4
 ·exact .inl h4
 ·exact .inr ⟨_, h4, by simp⟩
def RowsPost (w : World) (rs : List (List Tok)) (e : Ending) (w' : World) : Prop := ∃ v xs, e = .returned v ∧ RowsAt w' w.heap.size w.heap.size v rs xs ∧ Below w.heap.size w w'
structure RwRel (w w2 : World) (ts : List Tok) (k : Nat) (v : Value) (wr : World) : Prop where
 ex : ∃ rs r xs, rowsP (ts.take k) = rs ++ [r] ∧ RowsAt wr w.heap.size w2.heap.size v (rs ++ [r]) xs
 bel : Below w.heap.size w wr
 vb : ∀ b, v.ownBlock = some b → b = w.heap.size ∨ w2.heap.size ≤ b
 keep : ∀ b, b < w2.heap.size → b ≠ w.heap.size → wr.heap[b]? = w2.heap[b]?
 size : w2.heap.size ≤ wr.heap.size
theorem OwnToks.less {w : World} {B B' : Nat} {v : Value} {ts : List Tok} (h : OwnToks w B v ts) (hB : B' ≤ B) : OwnToks w B' v ts := h.more hB
theorem RowsAt.less {w : World} {B C C' : Nat} {v : Value} {rs : List (List Tok)} {xs : List Value} (h : RowsAt w B C v rs xs) (hC : C' ≤ C) : RowsAt w B C' v rs xs :=
 ⟨h.own, h.len, fun i hi => (h.each i hi).more hC, h.dist⟩
theorem rows_take {ts : List Tok} {k : Nat} (hk : k < ts.length) {rs : List (List Tok)} {r : List Tok} (h : rowsP (ts.take k) = rs ++ [r]) :
  rowsP (ts.take (k + 1)) = if semiB ts[k] = true then (rs ++ [r]) ++ [[]] else rs ++ [r ++ [ts[k]]] := by
 rw [List.take_succ_eq_append_getElem hk, rows_snoc]
 simp only [h]
 simp
theorem rowsP_len : ∀ (ts : List Tok), (rowsP ts).length ≤ ts.length + 1
 | [] => by simp [rowsP]
 | t :: r => by
  have := rowsP_len r
  unfold rowsP
  split
  ·simp; omega
  ·split <;> simp_all <;> omega
end Go.Proofs.YthidbmeaccpjdaaGreatDoor
end
