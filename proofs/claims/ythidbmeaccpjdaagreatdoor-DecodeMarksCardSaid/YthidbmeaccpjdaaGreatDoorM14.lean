/- Layer 4: the contracts of readers and Decode. Layer 12: the contracts of letter and word. Layer 12: the contracts of strings. Layer 12: the contract of all. -/
import Derived.Test.YthidbmeaccpjdaaGreatDoorM13
import Derived.Test.YthidbmeaccpjdaaGreatDoorM06
import Derived.Test.YthidbmeaccpjdaaGreatDoorM04
import Derived.Test.YthidbmeaccpjdaaGreatDoorM02
namespace Go.Proofs.YthidbmeaccpjdaaGreatDoor
open Go.RowKit
set_option linter.unusedVariables false
set_option maxHeartbeats 4000000
def fnBy (b : Nat) : Value := .func (.func 163) #[] #[.pointer (some ⟨b, 0, none⟩)]
def fnRep : Value := .func (.func 26) #[] #[]
def readF (b1 b2 b3 : Nat) (name : List UInt8) : Option Value := match setOf name with
 | 1 => some (fnBy b1)
 | 2 => some fnRep
 | 3 => some (fnBy b2)
 | 4 => some (fnBy b3)
 | _ => none
structure Readers (w : World) (m : Nat) : Prop where
 ex : ∃ b1 b2 b3, MapL strK w m (readF b1 b2 b3) 8 ∧
  (w.cell? ⟨b1, 0, none⟩ = some (.func (.func 161) #[] #[]) ∧ b1 < w.heap.size) ∧
  (w.cell? ⟨b2, 0, none⟩ = some (.func (.func 162) #[] #[]) ∧ b2 < w.heap.size) ∧
  (w.cell? ⟨b3, 0, none⟩ = some (.func (.func 94) #[] #[]) ∧ b3 < w.heap.size)
def ReadPost (w : World) (e : Ending) (w' : World) : Prop := ∃ m, e = .returned (.map (some m)) ∧ Readers w' m ∧ Below w.heap.size w w'
def n1 : List UInt8 := [117, 115, 45, 97, 115, 99, 105, 105]
def n2 : List UInt8 := [97, 115, 99, 105, 105]
def n3 : List UInt8 := [117, 116, 102, 45, 56]
def n4 : List UInt8 := [117, 116, 102, 56]
def n5 : List UInt8 := [105, 115, 111, 45, 56, 56, 53, 57, 45, 49]
def n6 : List UInt8 := [108, 97, 116, 105, 110, 49]
def n7 : List UInt8 := [119, 105, 110, 100, 111, 119, 115, 45, 49, 50, 53, 50]
def n8 : List UInt8 := [99, 112, 49, 50, 53, 50]
theorem readF_upd (b1 b2 b3 : Nat) (x : List UInt8) :
  readF b1 b2 b3 x = updK (updK (updK (updK (updK (updK (updK (updK (fun _ => none) n1 (fnBy b1)) n2 (fnBy b1)) n3 fnRep) n4 fnRep) n5 (fnBy b2)) n6 (fnBy b2)) n7 (fnBy b3)) n8 (fnBy b3) x := by
 unfold readF setOf updK
 by_cases h8 : x = n8
 ·subst h8; unfold n1 n2 n3 n4 n5 n6 n7 n8; simp
 by_cases h7 : x = n7
 ·subst h7; unfold n1 n2 n3 n4 n5 n6 n7 n8; simp
 by_cases h6 : x = n6
 ·subst h6; unfold n1 n2 n3 n4 n5 n6 n7 n8; simp
 by_cases h5 : x = n5
 ·subst h5; unfold n1 n2 n3 n4 n5 n6 n7 n8; simp
 by_cases h4 : x = n4
 ·subst h4; unfold n1 n2 n3 n4 n5 n6 n7 n8; simp
 by_cases h3 : x = n3
 ·subst h3; unfold n1 n2 n3 n4 n5 n6 n7 n8; simp
 by_cases h2 : x = n2
 ·subst h2; unfold n1 n2 n3 n4 n5 n6 n7 n8; simp
 by_cases h1 : x = n1
 ·subst h1; unfold n1 n2 n3 n4 n5 n6 n7 n8; simp
 rw [if_neg h8, if_neg h7, if_neg h6, if_neg h5, if_neg h4, if_neg h3, if_neg h2, if_neg h1]
 rw [if_neg (fun h => h.elim h1 h2), if_neg (fun h => h.elim h3 h4), if_neg (fun h => h.elim h5 h6), if_neg (fun h => h.elim h7 h8)]
 rfl
theorem bytewise_any (F : FuncId) (w : World) : Calls Tryz.prog 93 #[.func (.func F) #[] #[]] w fun e w' => e = .returned (fnBy w.heap.size) ∧ w' = w.alloc (.cells #[.func (.func F) #[] #[]] 100) := by
 go_enter Tryz.func93, Tryz.ntmps93
 go_wp2
 go_ret
 exact ⟨rfl, rfl⟩
set_option maxRecDepth 100000 in
theorem readers_any (w : World) : Calls Tryz.prog 91 #[] w (ReadPost w) := by
 have hm0 := MapL.made strK (((w.alloc (.cells #[.func (.func 161) #[] #[]] 100)).alloc (.cells #[.func (.func 162) #[] #[]] 100)).alloc (.cells #[.func (.func 94) #[] #[]] 100))
 simp only [World.size_alloc] at hm0
 obtain ⟨W1, hrun1, hm1, hg1⟩ := hm0.put Tryz.underlying101 (by decide) (x := n1) (show n1.length ≤ maxLen by decide) (fnBy w.heap.size)
 obtain ⟨W2, hrun2, hm2, hg2⟩ := hm1.put Tryz.underlying101 (by decide) (x := n2) (show n2.length ≤ maxLen by decide) (fnBy w.heap.size)
 obtain ⟨W3, hrun3, hm3, hg3⟩ := hm2.put Tryz.underlying101 (by decide) (x := n3) (show n3.length ≤ maxLen by decide) fnRep
 obtain ⟨W4, hrun4, hm4, hg4⟩ := hm3.put Tryz.underlying101 (by decide) (x := n4) (show n4.length ≤ maxLen by decide) fnRep
 obtain ⟨W5, hrun5, hm5, hg5⟩ := hm4.put Tryz.underlying101 (by decide) (x := n5) (show n5.length ≤ maxLen by decide) (fnBy (w.heap.size + 1))
 obtain ⟨W6, hrun6, hm6, hg6⟩ := hm5.put Tryz.underlying101 (by decide) (x := n6) (show n6.length ≤ maxLen by decide) (fnBy (w.heap.size + 1))
 obtain ⟨W7, hrun7, hm7, hg7⟩ := hm6.put Tryz.underlying101 (by decide) (x := n7) (show n7.length ≤ maxLen by decide) (fnBy (w.heap.size + 1 + 1))
 obtain ⟨W8, hrun8, hm8, hg8⟩ := hm7.put Tryz.underlying101 (by decide) (x := n8) (show n8.length ≤ maxLen by decide) (fnBy (w.heap.size + 1 + 1))
 have HM := Lib.hid hm8
 have HG := Lib.hid (show Below (w.heap.size + 1 + 1 + 1) (((w.alloc (.cells #[.func (.func 161) #[] #[]] 100)).alloc (.cells #[.func (.func 162) #[] #[]] 100)).alloc (.cells #[.func (.func 94) #[] #[]] 100)) W8 from by
  have hb0 : Below (w.heap.size + 1 + 1 + 1) (((w.alloc (.cells #[.func (.func 161) #[] #[]] 100)).alloc (.cells #[.func (.func 162) #[] #[]] 100)).alloc (.cells #[.func (.func 94) #[] #[]] 100)) ((((w.alloc (.cells #[.func (.func 161) #[] #[]] 100)).alloc (.cells #[.func (.func 162) #[] #[]] 100)).alloc (.cells #[.func (.func 94) #[] #[]] 100)).alloc (.map #[] 0)) := (Below.refl _ _).alloc (by simp) _
  have hr : ∀ k : Nat, some (w.heap.size + 1 + 1 + 1) = some k → w.heap.size + 1 + 1 + 1 ≤ k := fun k e => by injection e with e; omega
  have hs0 : w.heap.size + 1 + 1 + 1 ≤ ((((w.alloc (.cells #[.func (.func 161) #[] #[]] 100)).alloc (.cells #[.func (.func 162) #[] #[]] 100)).alloc (.cells #[.func (.func 94) #[] #[]] 100)).alloc (.map #[] 0)).heap.size := by simp
  have hb1 := hb0.grown hg1 hs0 hr
  have hb2 := hb1.grown hg2 (by have := hg1.size; omega) hr
  have hb3 := hb2.grown hg3 (by have := hg1.size; have := hg2.size; omega) hr
  have hb4 := hb3.grown hg4 (by have := hg1.size; have := hg2.size; have := hg3.size; omega) hr
  have hb5 := hb4.grown hg5 (by have := hg1.size; have := hg2.size; have := hg3.size; have := hg4.size; omega) hr
  have hb6 := hb5.grown hg6 (by have := hg1.size; have := hg2.size; have := hg3.size; have := hg4.size; have := hg5.size; omega) hr
  have hb7 := hb6.grown hg7 (by have := hg1.size; have := hg2.size; have := hg3.size; have := hg4.size; have := hg5.size; have := hg6.size; omega) hr
  exact hb7.grown hg8 (by have := hg1.size; have := hg2.size; have := hg3.size; have := hg4.size; have := hg5.size; have := hg6.size; have := hg7.size; omega) hr)
 clear hm0 hm1 hm2 hm3 hm4 hm5 hm6 hm7 hm8 hg1 hg2 hg3 hg4 hg5 hg6 hg7 hg8
 unfold strK at hrun1 hrun2 hrun3 hrun4 hrun5 hrun6 hrun7 hrun8
 simp only [n1, n2, n3, n4, n5, n6, n7, n8, fnBy, fnRep, ba] at hrun1 hrun2 hrun3 hrun4 hrun5 hrun6 hrun7 hrun8
 have hmm := @run_makeMap Tryz.prog
 go_enter Tryz.func91, Tryz.ntmps91
 go_wp2_with fail
 refine (bytewise_any _ _).mono ?_
 rintro e w1 ⟨rfl, rfl⟩
 go_wp2_with fail
 refine (bytewise_any _ _).mono ?_
 rintro e w1 ⟨rfl, rfl⟩
 go_wp2_with fail
 refine (bytewise_any _ _).mono ?_
 rintro e w1 ⟨rfl, rfl⟩
 unfold fnBy
 go_wp2_with fail
 go_ret
 refine ⟨_, rfl, ⟨w.heap.size, w.heap.size + 1, w.heap.size + 1 + 1, HM.out.congr fun x _ => readF_upd _ _ _ x, ⟨?_, ?_⟩, ⟨?_, ?_⟩, ?_, ?_⟩, ?_⟩
 ·rw [HG.out.cell (p := ⟨w.heap.size, 0, none⟩) (by show w.heap.size < _; omega)]
  go_simp
 ·have := HG.out.size; simp at this; omega
 ·rw [HG.out.cell (p := ⟨w.heap.size + 1, 0, none⟩) (by show w.heap.size + 1 < _; omega)]
  go_simp
 ·have := HG.out.size; simp at this; omega
 ·rw [HG.out.cell (p := ⟨w.heap.size + 1 + 1, 0, none⟩) (by show w.heap.size + 1 + 1 < _; omega)]
  go_simp
 ·have := HG.out.size; simp at this; omega
 ·exact ((((Below.refl _ _).alloc (Nat.le_refl _) _).alloc (by simp) _).alloc (by simp; omega) _).trans (HG.out.mono (by omega))
theorem zero_fn (w : World) : (zeroValue 36).run Tryz.prog w = .ok .nilFunc w := by kernel_rfl
def decK (k : Nat) (l : List UInt8) : List UInt8 := match k with
 | 1 => bytesBy signA l
 | 2 => repairP l
 | 3 => bytesBy signL l
 | _ => bytesBy signW l
theorem decodeSet_k (name l : List UInt8) : decodeSet name l = decK (setOf (smallP name)) l := rfl
theorem fn_nil (W : World) : (binOp .eql 36 .nilFunc .nilFunc).run Tryz.prog W = .ok (.bool true) W := by kernel_rfl
theorem fn_some (F : Fn) (a c : Array Value) (W : World) : (binOp .eql 36 (.func F a c) .nilFunc).run Tryz.prog W = .ok (.bool false) W := by kernel_rfl
def DecPost (w : World) (name l : List UInt8) (e : Ending) (w' : World) : Prop := e = .returned (.tuple #[.string (ba (decodeSet name l)), .bool (decide (setOf (smallP name) ≠ 0))]) ∧ Below w.heap.size w w'
set_option maxRecDepth 100000 in
theorem decode_big (name l : List UInt8) (w : World) (hn : name.length ≤ 4000000000) (hl : l.length ≤ 1000000000) (hT : Tabs w) :
  Calls Tryz.prog 43 #[.string (ba name), .string (ba l)] w (DecPost w name l) := by
 have hfn := fn_nil
 have hfs := fn_some
 go_enter Tryz.func43, Tryz.ntmps43
 have HT := Lib.hid hT
 clear hT
 go_wp2_with fail
 refine (readers_any w).mono ?_
 rintro e w1 ⟨m, rfl, hR, hb1⟩
 obtain ⟨b1, b2, b3, hm, ⟨hc1, hl1⟩, ⟨hc2, hl2⟩, ⟨hc3, hl3⟩⟩ := hR.ex
 have HM := Lib.hid hm
 have HB1 := Lib.hid hb1
 have HC1 := Lib.hid hc1
 have HC2 := Lib.hid hc2
 have HC3 := Lib.hid hc3
 have HL1 := Lib.hid (And.intro hl1 (And.intro hl2 hl3))
 clear hm hb1 hR hc1 hc2 hc3 hl1 hl2 hl3
 go_wp2_with fail
 refine (chsmall_big name w1 hn).mono ?_
 rintro e w2 ⟨rfl, hb2⟩
 have HB2 := Lib.hid hb2
 clear hb2
 have hlk := (HM.out.below HB2.out).look Tryz.underlying101 (zero_fn w2) (x := smallP name) (show (smallP name).length ≤ maxLen by rw [smallP_len]; unfold maxLen; omega)
 unfold strK at hlk
 dsimp only at hlk
 have hs0 : setOf (smallP name) = 0 ∨ setOf (smallP name) = 1 ∨ setOf (smallP name) = 2 ∨ setOf (smallP name) = 3 ∨ setOf (smallP name) = 4 := by
  unfold setOf
  repeat' split
  all_goals simp
 have HFIN := Lib.hid (show ∀ k v w', setOf (smallP name) = k → decK k l = v → Below w.heap.size w w' → DecPost w name l (.returned (.tuple #[.string (ba v), .bool (decide (k ≠ 0))])) w' from fun k v w' h1 h2 h3 => by
  unfold DecPost
  rw [decodeSet_k, h1, h2]
  exact ⟨rfl, h3⟩)
 have HT2 := Lib.hid ((HT.out.below HB1.out).below (HB2.out))
 have HBB := Lib.hid (HB1.out.trans (HB2.out.mono HB1.out.size))
 unfold readF at hlk
 obtain ⟨k, hk⟩ : ∃ k, setOf (smallP name) = k := ⟨_, rfl⟩
 rw [hk] at hlk hs0
 have HK := Lib.hid hk
 clear hk
 rcases hs0 with rfl | rfl | rfl | rfl | rfl
 ·have BOX := Lib.hid (show Below w.heap.size w2 (w2.alloc (.cells #[.func (.func 94) #[] #[]] 100)) from (Below.refl _ _).alloc HBB.out.size _)
  have hcx : (w2.alloc (.cells #[.func (.func 94) #[] #[]] 100)).cell? ⟨w2.heap.size, 0, none⟩ = some (.func (.func 94) #[] #[]) := by simp
  have HCX := Lib.hid hcx
  clear hcx
  go_wp2_with fail
  refine (bytewise_any _ _).mono ?_
  rintro e w3 ⟨rfl, rfl⟩
  unfold fnBy
  go_wp2_with fail
  refine (by_windows l w2.heap.size (w2.alloc (.cells #[.func (.func 94) #[] #[]] 100)) hl HCX.out (by simp)).mono ?_
  rintro e w4 ⟨rfl, hb4⟩
  have HB4 := Lib.hid hb4
  clear hb4
  go_wp2
  go_ret2
  exact HFIN.out 0 _ _ HK.out rfl (HBB.out.trans ((BOX.out).trans (HB4.out.mono (by have := HBB.out.size; simp; omega))))
 ·unfold fnBy at hlk
  go_wp2_with fail
  refine (by_ascii l b1 w2 hl ((HB2.out.cell (p := ⟨b1, 0, none⟩) HL1.out.1).trans HC1.out) (Nat.lt_of_lt_of_le HL1.out.1 HB2.out.size)).mono ?_
  rintro e w4 ⟨rfl, hb4⟩
  have HB4 := Lib.hid hb4
  clear hb4
  go_wp2
  go_ret2
  exact HFIN.out 1 _ _ HK.out rfl (HBB.out.trans (HB4.out.mono HBB.out.size))
 ·unfold fnRep at hlk
  go_wp2_with fail
  refine (repair_any l w2 hl HT2.out).mono ?_
  rintro e w4 ⟨rfl, hb4⟩
  have HB4 := Lib.hid hb4
  clear hb4
  go_wp2
  go_ret2
  exact HFIN.out 2 _ _ HK.out rfl (HBB.out.trans (HB4.out.mono HBB.out.size))
 ·unfold fnBy at hlk
  go_wp2_with fail
  refine (by_latin l b2 w2 hl ((HB2.out.cell (p := ⟨b2, 0, none⟩) HL1.out.2.1).trans HC2.out) (Nat.lt_of_lt_of_le HL1.out.2.1 HB2.out.size)).mono ?_
  rintro e w4 ⟨rfl, hb4⟩
  have HB4 := Lib.hid hb4
  clear hb4
  go_wp2
  go_ret2
  exact HFIN.out 3 _ _ HK.out rfl (HBB.out.trans (HB4.out.mono HBB.out.size))
 ·unfold fnBy at hlk
  go_wp2_with fail
  refine (by_windows l b3 w2 hl ((HB2.out.cell (p := ⟨b3, 0, none⟩) HL1.out.2.2).trans HC3.out) (Nat.lt_of_lt_of_le HL1.out.2.2 HB2.out.size)).mono ?_
  rintro e w4 ⟨rfl, hb4⟩
  have HB4 := Lib.hid hb4
  clear hb4
  go_wp2
  go_ret2
  exact HFIN.out 4 _ _ HK.out rfl (HBB.out.trans (HB4.out.mono HBB.out.size))
theorem decode_any (name l : List UInt8) (w : World) (hn : name.length ≤ 1000000000) (hl : l.length ≤ 1000000000) (hT : Tabs w) :
  Calls Tryz.prog 43 #[.string (ba name), .string (ba l)] w (DecPost w name l) := decode_big name l w (by omega) hl hT
theorem letter_any (c : UInt8) (w : World) : Calls Tryz.prog 142 #[.int .u8 (c.toNat : Int)] w fun e w' => e = .returned (.bool (letterB c)) ∧ w' = w := by
 obtain ⟨x, hx⟩ : ∃ x : Int, (c.toNat : Int) = x := ⟨_, rfl⟩
 have HF := Lib.hid (fun b => letterV hx (b := b))
 rw [hx]
 clear hx
 go_enter Tryz.func142, Tryz.ntmps142
 go_wp2
 all_goals
  go_ret
  refine ⟨?_, rfl⟩
  rw [HF.out _ rfl]
  show Ending.returned (Value.bool _) = Ending.returned (Value.bool _)
  congr 2
  rw [Bool.eq_iff_iff]
  simp only [Bool.or_eq_true, Bool.and_eq_true, decide_eq_true_iff]
  first | omega | (simp; omega)
theorem wordBytes_index (c : UInt8) : decide (Lib.indexByte wordBytes c < 0) = !wordBytes.contains c := u8_all (fun c => decide (Lib.indexByte wordBytes c < 0) = !wordBytes.contains c) (by decide +kernel) c
theorem windex_any (c : UInt8) (w : World) : Calls Tryz.prog 128 #[.string ⟨#[33, 35, 36, 38, 94, 95, 46, 43, 45]⟩, .int .u8 (c.toNat : Int)] w fun e w' => e = .returned (.int .i64 (Lib.indexByte wordBytes c)) ∧ w' = w := by
 refine (Tryz.strings_IndexByte _ (c.toNat : Int) w).mono ?_
 rintro e w' ⟨rfl, rfl⟩
 rw [u8_back]
 exact ⟨rfl, rfl⟩
set_option maxRecDepth 100000 in
theorem word_any (l : List UInt8) (w : World) (hl : l.length ≤ 1000000000) :
  Calls Tryz.prog 153 #[.string (ba l)] w fun e w' => e = .returned (.bool (isWord l)) ∧ w' = w := by
 have HEM := Lib.hid (show isWord l = (l.all wordB && !l.isEmpty) from rfl)
 have hem : (ba l).toList.isEmpty = l.isEmpty := by rw [ba_toList]
 obtain ⟨n, hn⟩ : ∃ n, l.length = n := ⟨_, rfl⟩
 have HL := Lib.hid hn
 obtain ⟨s, hs⟩ : ∃ s, ba l = s := ⟨_, rfl⟩
 have HS := Lib.hid hs
 have HZ := Lib.hid (show s.size = n by rw [← hs, ba_size, hn])
 have hsz : (s.size : Int) = n := by rw [HZ.out]
 rw [hs]
 rw [hn] at hl
 clear hs hn
 rw [HS.out] at hem
 obtain ⟨em, hem2⟩ : ∃ b, l.isEmpty = b := ⟨_, rfl⟩
 rw [hem2] at hem HEM
 have HES := Lib.hid hem
 clear hem hem2
 go_enter Tryz.func153, Tryz.ntmps153
 go_wp2
 go_loop [6] (fun i => ∃ k : Nat, k ≤ n ∧ i = .int .i64 (k : Int) ∧ Hid ((l.take k).all wordB = true)) (fun i => n - (intOf i).toNat)
 case atStart => exact ⟨0, Nat.zero_le _, rfl, Lib.hid rfl⟩
 case round =>
  obtain ⟨k, hk, rfl, HR⟩ := hrel
  by_cases hlt : k < n
  ·have hk2 : (k : Int) < (n : Int) := by omega
   have hk0 : (0 : Int) ≤ (k : Int) := by omega
   have hks : k < s.size := by rw [HZ.out]; omega
   have hkl : k < l.length := by rw [HL.out]; omega
   have hget : s[k] = l[k] := by
    have h := HS.out
    subst h
    rfl
   have HST := Lib.hid (wb_snoc hkl)
   have HIT := Lib.hid (isWord_stop hkl)
   obtain ⟨c, hc⟩ : ∃ c, l[k] = c := ⟨_, rfl⟩
   rw [hc] at hget HST HIT
   obtain ⟨x, hx⟩ : ∃ x : Int, (c.toNat : Int) = x := ⟨_, rfl⟩
   have hgi : ((s[k]).toNat : Int) = x := by rw [hget]; exact hx
   have HX := Lib.hid hx
   have hx0 : 0 ≤ x := by omega
   have hx1 : x ≤ 255 := by have := c.toNat_lt; omega
   clear hc hkl hget hx
   have HHAS := windex_any c
   have HLET := letter_any c
   have HWI := wordBytes_index c
   rw [HX.out] at HHAS HLET
   have HW := Lib.hid (show wordB c = (letterB c || wordBytes.contains c) from rfl)
   obtain ⟨b1, hb1⟩ : ∃ b, letterB c = b := ⟨_, rfl⟩
   obtain ⟨b2, hb2⟩ : ∃ b, wordBytes.contains c = b := ⟨_, rfl⟩
   obtain ⟨v, hv⟩ : ∃ v, Lib.indexByte wordBytes c = v := ⟨_, rfl⟩
   rw [hb1] at HLET HW
   rw [hb2] at HWI HW
   simp only [hv] at HHAS HWI
   have HA := Lib.hid HHAS
   have HE := Lib.hid HLET
   clear hb1 hb2 hv HHAS HLET
   cases b1
   ·cases b2
    ·have hvn : decide (v < 0) = true := HWI
     have HV := Lib.hid (HIT.out HW.out)
     clear HWI
     go_wp2_with fail
     refine (HE.out _).mono ?_
     rintro e w' ⟨rfl, rfl⟩
     go_wp2_with fail
     refine (HA.out _).mono ?_
     rintro e w' ⟨rfl, rfl⟩
     go_wp2
     go_ret
     exact ⟨by rw [HV.out]; rfl, rfl⟩
    ·have hvn : decide (v < 0) = false := HWI
     have HV := Lib.hid (show (l.take (k + 1)).all wordB = true by rw [HST.out, HR.out, HW.out]; rfl)
     clear HWI
     go_wp2_with fail
     refine (HE.out _).mono ?_
     rintro e w' ⟨rfl, rfl⟩
     go_wp2_with fail
     refine (HA.out _).mono ?_
     rintro e w' ⟨rfl, rfl⟩
     go_wp2
     go_round
     case rel => exact ⟨k + 1, by omega, by go_num, HV⟩
     case measure => simp [intOf] <;> omega
   ·have HV := Lib.hid (show (l.take (k + 1)).all wordB = true by rw [HST.out, HR.out, HW.out]; rfl)
    clear HWI
    go_wp2_with fail
    refine (HE.out _).mono ?_
    rintro e w' ⟨rfl, rfl⟩
    go_wp2
    go_round
    case rel => exact ⟨k + 1, by omega, by go_num, HV⟩
    case measure => simp [intOf] <;> omega
  ·obtain rfl : k = n := by omega
   have HV := Lib.hid (show isWord l = !em by
    rw [HEM.out]
    have := HR.out
    rw [List.take_of_length_le (by rw [HL.out]; exact Nat.le_refl _)] at this
    rw [this]
    rfl)
   have hes := HES.out
   go_wp2
   go_ret
   exact ⟨by rw [HV.out]; rfl, rfl⟩
theorem index_find (c : UInt8) : ∀ l : List UInt8, Lib.index l [c] = findV c l
 | [] => rfl
 | x :: r => by
  have ih := index_find c r
  unfold Lib.index findV cutP
  by_cases h : x = c
  ·subst h
   simp [List.isPrefixOf]
  ·have h2 : List.isPrefixOf [c] (x :: r) = false := by
    simp [List.isPrefixOf]
    exact fun e => h e.symm
   rw [h2, if_neg h, ih]
   unfold findV
   cases hc : cutP c r with
   | none => rfl
   | some q =>
    show (if (false = true) then (0 : Int) else if ((q.1.length : Int) == -1) = true then -1 else (q.1.length : Int) + 1) = ((x :: q.1).length : Int)
    have : ((q.1.length : Int) == -1) = false := by simp
    rw [this]
    simp
def cutV (c : UInt8) (l : List UInt8) : List UInt8 × List UInt8 × Bool := match cutP c l with
 | some q => (q.1, q.2, true)
 | none => (l, [], false)
theorem cut_eq (c : UInt8) (l : List UInt8) : Lib.cut l [c] = cutV c l := by
 unfold Lib.cut cutV
 rw [index_find]
 unfold findV
 cases h : cutP c l with
 | none => rfl
 | some q =>
  obtain ⟨a, b⟩ := q
  have h1 := (cutP_some h).1
  show (if 0 ≤ (a.length : Int) then (l.take (a.length : Int).toNat, l.drop ((a.length : Int).toNat + 1), true) else (l, [], false)) = (a, b, true)
  rw [if_pos (by omega), h1]
  simp
def CutPost (w : World) (c : UInt8) (l : List UInt8) (e : Ending) (w' : World) : Prop := e = .returned (.tuple #[.string (ba (cutV c l).1), .string (ba (cutV c l).2.1), .bool (cutV c l).2.2]) ∧ ∃ n, w' = w.drewN n
theorem cut_any (c : UInt8) (l : List UInt8) (w : World) (hl : l.length ≤ 1000000000) (hT : Tabs w) :
  Calls Tryz.prog 82 #[.string (ba l), .string ⟨#[c]⟩] w (CutPost w c l) := by
 obtain ⟨m, hm⟩ := hT.max
 refine (Tryz.strings_Cut (ba l) ⟨#[c]⟩ m w (by rw [ba_size]; omega) hm).mono ?_
 rintro e w' ⟨rfl, hw⟩
 refine ⟨?_, hw⟩
 have e1 : Lib.cut (ba l).data.toList (⟨#[c]⟩ : ByteArray).data.toList = cutV c l := by rw [ba_list]; exact cut_eq c l
 rw [e1]
 rfl
theorem cutV_len (c : UInt8) (l : List UInt8) : (cutV c l).1.length ≤ l.length ∧ (cutV c l).2.1.length ≤ l.length := by
 unfold cutV
 cases h : cutP c l with
 | none => exact ⟨Nat.le_refl _, Nat.zero_le _⟩
 | some q =>
  obtain ⟨a, b⟩ := q
  have h1 := (cutP_some h).1
  show a.length ≤ l.length ∧ b.length ≤ l.length
  rw [h1]
  simp
  omega
theorem splitP_cut (l : List UInt8) : splitP l = if (cutV 39 l).2.2 = true ∧ (cutV 39 (cutV 39 l).2.1).2.2 = true then ((cutV 39 l).1, (cutV 39 (cutV 39 l).2.1).2.1) else ([], l) := by
 unfold splitP cutV
 cases h : cutP 39 l with
 | none => rfl
 | some q =>
  show (match cutP 39 q.2 with | none => ([], l) | some p => (q.1, p.2)) = _
  cases h2 : cutP 39 q.2 with
  | none => simp
  | some p => simp
def SplitPost (w : World) (l : List UInt8) (e : Ending) (w' : World) : Prop := e = .returned (.tuple #[.string (ba (splitP l).1), .string (ba (splitP l).2)]) ∧ Below w.heap.size w w'
theorem split_fin {w w' : World} {l a b : List UInt8} (h : splitP l = (a, b)) (hb : Below w.heap.size w w') : SplitPost w l (.returned (.tuple #[.string (ba a), .string (ba b)])) w' := by
 unfold SplitPost
 rw [h]
 exact ⟨rfl, hb⟩
set_option maxRecDepth 100000 in
theorem split_any (l : List UInt8) (w : World) (hl : l.length ≤ 1000000000) (hT : Tabs w) :
  Calls Tryz.prog 248 #[.string (ba l)] w (SplitPost w l) := by
 have HC1 := Lib.hid (cut_any 39 l w hl hT)
 have hl2 := cutV_len 39 l
 have HC2 := Lib.hid (fun n => cut_any 39 (cutV 39 l).2.1 (w.drewN n) (by omega) (hT.drewN n))
 have HS := Lib.hid (splitP_cut l)
 unfold CutPost at HC1 HC2
 clear hT hl2
 obtain ⟨⟨a, b, f⟩, hv⟩ : ∃ v, cutV 39 l = v := ⟨_, rfl⟩
 rw [hv] at HC1 HC2 HS
 obtain ⟨⟨c, d, g⟩, hv2⟩ : ∃ v, cutV 39 b = v := ⟨_, rfl⟩
 simp only [hv2] at HC2 HS
 clear hv hv2
 go_enter Tryz.func248, Tryz.ntmps248
 go_wp2_with fail
 refine HC1.out.mono ?_
 rintro e w1 ⟨rfl, n1, rfl⟩
 go_wp2_with fail
 refine (HC2.out n1).mono ?_
 rintro e w1 ⟨rfl, n2, rfl⟩
 have HB := Lib.hid (below_drewN (Below.refl w.heap.size w) (n1 + n2))
 cases f
 ·have HF := Lib.hid (show splitP l = ([], l) by rw [HS.out]; rfl)
  go_wp2
  go_ret2
  exact split_fin HF.out HB.out
 ·cases g
  ·have HF := Lib.hid (show splitP l = ([], l) by rw [HS.out]; rfl)
   go_wp2
   go_ret2
   exact split_fin HF.out HB.out
  ·have HF := Lib.hid (show splitP l = (a, d) by rw [HS.out]; rfl)
   go_wp2
   go_ret2
   exact split_fin HF.out HB.out
set_option maxRecDepth 100000 in
theorem meant_any (name l : List UInt8) (w : World) (hn : name.length ≤ 1000000000) (hl : l.length ≤ 1000000000) (hT : Tabs w) :
  Calls Tryz.prog 249 #[.string (ba name), .string (ba l)] w (StrB w (meantP name l)) := by
 have HR := Lib.hid (repair_any l w hl hT)
 have HD := Lib.hid (decode_any name l w hn hl hT)
 unfold DecPost at HD
 obtain ⟨bb, hbb⟩ : ∃ b, decide (setOf (smallP name) ≠ 0) = b := ⟨_, rfl⟩
 rw [hbb] at HD
 clear hbb hT
 cases name with
 | nil =>
  have g1 : (ba ([] : List UInt8)).toList.isEmpty = true := by rw [ba_toList]; rfl
  have HM := Lib.hid (show meantP [] l = repairP l from rfl)
  go_enter Tryz.func249, Tryz.ntmps249
  go_wp2_with fail
  refine HR.out.mono ?_
  rintro e w1 ⟨rfl, hb⟩
  have HB := Lib.hid hb
  clear hb
  go_wp2
  go_ret
  exact str_fin (by rw [HM.out]) HB.out
 | cons c r =>
  have g1 : (ba (c :: r)).toList.isEmpty = false := by rw [ba_toList]; rfl
  have HM := Lib.hid (show meantP (c :: r) l = decodeSet (c :: r) l by unfold meantP; rw [if_neg (by simp)])
  go_enter Tryz.func249, Tryz.ntmps249
  go_wp2_with fail
  refine HD.out.mono ?_
  rintro e w1 ⟨rfl, hb⟩
  have HB := Lib.hid hb
  clear hb
  go_wp2
  go_ret
  exact str_fin (by rw [HM.out]) HB.out
theorem indexb_any (c : UInt8) (l : List UInt8) (w : World) : Calls Tryz.prog 128 #[.string (ba l), .int .u8 (c.toNat : Int)] w fun e w' => e = .returned (.int .i64 (Lib.indexByte l c)) ∧ w' = w := by
 refine (Tryz.strings_IndexByte _ (c.toNat : Int) w).mono ?_
 rintro e w' ⟨rfl, rfl⟩
 rw [u8_back]
 exact ⟨rfl, rfl⟩
theorem all_snoc {f : UInt8 → Bool} {l : List UInt8} {k : Nat} (hk : k < l.length) (h : (l.take k).all f = true) : (l.take (k + 1)).all f = f l[k] := by
 rw [List.take_succ_eq_append_getElem hk, List.all_append, h]
 simp
theorem all_stop {f : UInt8 → Bool} {l : List UInt8} {k : Nat} (hk : k < l.length) (h : f l[k] = false) : l.all f = false := by
 rw [← Bool.not_eq_true, List.all_eq_true]
 intro h2
 rw [h2 _ (List.getElem_mem hk)] at h
 cases h
end Go.Proofs.YthidbmeaccpjdaaGreatDoor
