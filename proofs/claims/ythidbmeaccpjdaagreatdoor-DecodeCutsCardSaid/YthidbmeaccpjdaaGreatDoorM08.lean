/- Layer 4: the contracts of readers and Decode. Layer 12: the contracts of letter and word. Layer 12: the contracts of strings.Cut at one byte, split, meant and open. Layer 12: the contract of all. Layer 9: the contracts of end, goes, bare, Right, Unfold, small. Layer 14: the contract of boundary. -/
import Derived.Shelf.Strings.SlTrimAscii
import Derived.Test.YthidbmeaccpjdaaGreatDoorM07
import Derived.Test.YthidbmeaccpjdaaGreatDoorM04
import Derived.Test.YthidbmeaccpjdaaGreatDoorM02
import Derived.Test.YthidbmeaccpjdaaGreatDoorM01
section
namespace Go.Proofs.YthidbmeaccpjdaaGreatDoor
open Go.RowKit
set_option linter.unusedVariables false
def fnBy (b : Nat) : Value := .func (.func 163) #[] #[.pointer (some ⟨b, 0, none⟩)]
def fnRep : Value := .func (.func 26) #[] #[]
def readF (b1 b2 b3 : Nat) (name : List UInt8) : Option Value := match setOf name with
 | 1 => some (fnBy b1)
 | 2 => some fnRep
 | 3 => some (fnBy b2)
 | 4 => some (fnBy b3)
 | _ => none
structure Readers (w : World) (m : Nat) : Prop where
 ex : ∃ b1 b2 b3, MapL strK w m (readF b1 b2 b3) 8 ∧
  (w.cell? ⟨b1, 0, none⟩ = some (.func (.func 161) #[] #[]) ∧ b1 < w.heap.size) ∧
  (w.cell? ⟨b2, 0, none⟩ = some (.func (.func 162) #[] #[]) ∧ b2 < w.heap.size) ∧
  (w.cell? ⟨b3, 0, none⟩ = some (.func (.func 94) #[] #[]) ∧ b3 < w.heap.size)
def ReadPost (w : World) (e : Ending) (w' : World) : Prop := ∃ m, e = .returned (.map (some m)) ∧ Readers w' m ∧ Below w.heap.size w w'
def n1 : List UInt8 := [117, 115, 45, 97, 115, 99, 105, 105]
def n2 : List UInt8 := [97, 115, 99, 105, 105]
def n3 : List UInt8 := [117, 116, 102, 45, 56]
def n4 : List UInt8 := [117, 116, 102, 56]
def n5 : List UInt8 := [105, 115, 111, 45, 56, 56, 53, 57, 45, 49]
def n6 : List UInt8 := [108, 97, 116, 105, 110, 49]
def n7 : List UInt8 := [119, 105, 110, 100, 111, 119, 115, 45, 49, 50, 53, 50]
def n8 : List UInt8 := [99, 112, 49, 50, 53, 50]
theorem readF_upd (b1 b2 b3 : Nat) (x : List UInt8) :
  readF b1 b2 b3 x = updK (updK (updK (updK (updK (updK (updK (updK (fun _ => none) n1 (fnBy b1)) n2 (fnBy b1)) n3 fnRep) n4 fnRep) n5 (fnBy b2)) n6 (fnBy b2)) n7 (fnBy b3)) n8 (fnBy b3) x := by
 unfold readF setOf updK
 by_cases h8 : x = n8
 ·subst h8; unfold n1 n2 n3 n4 n5 n6 n7 n8; simp
 by_cases h7 : x = n7
 ·subst h7; unfold n1 n2 n3 n4 n5 n6 n7 n8; simp
 by_cases h6 : x = n6
 ·subst h6; unfold n1 n2 n3 n4 n5 n6 n7 n8; simp
 by_cases h5 : x = n5
 ·subst h5; unfold n1 n2 n3 n4 n5 n6 n7 n8; simp
 by_cases h4 : x = n4
 ·subst h4; unfold n1 n2 n3 n4 n5 n6 n7 n8; simp
 by_cases h3 : x = n3
 ·subst h3; unfold n1 n2 n3 n4 n5 n6 n7 n8; simp
 by_cases h2 : x = n2
 ·subst h2; unfold n1 n2 n3 n4 n5 n6 n7 n8; simp
 by_cases h1 : x = n1
 ·subst h1; unfold n1 n2 n3 n4 n5 n6 n7 n8; simp
 rw [if_neg h8, if_neg h7, if_neg h6, if_neg h5, if_neg h4, if_neg h3, if_neg h2, if_neg h1]
 rw [if_neg (fun h => h.elim h1 h2), if_neg (fun h => h.elim h3 h4), if_neg (fun h => h.elim h5 h6), if_neg (fun h => h.elim h7 h8)]
 rfl
theorem bytewise_any (F : FuncId) (w : World) : Calls Tryz.prog 93 #[.func (.func F) #[] #[]] w fun e w' => e = .returned (fnBy w.heap.size) ∧ w' = w.alloc (.cells #[.func (.func F) #[] #[]] 100) := by
 go_enter Tryz.func93, Tryz.ntmps93
 go_wp2
 go_ret
 exact ⟨rfl, rfl⟩
set_option maxRecDepth 100000 in
set_option maxHeartbeats 4000000 in
theorem readers_any (w : World) : Calls Tryz.prog 91 #[] w (ReadPost w) := by
 have hm0 := MapL.made strK (((w.alloc (.cells #[.func (.func 161) #[] #[]] 100)).alloc (.cells #[.func (.func 162) #[] #[]] 100)).alloc (.cells #[.func (.func 94) #[] #[]] 100))
 simp only [World.size_alloc] at hm0
 obtain ⟨W1, hrun1, hm1, hg1⟩ := hm0.put Tryz.underlying101 (by decide) (x := n1) (show n1.length ≤ maxLen by decide) (fnBy w.heap.size)
 obtain ⟨W2, hrun2, hm2, hg2⟩ := hm1.put Tryz.underlying101 (by decide) (x := n2) (show n2.length ≤ maxLen by decide) (fnBy w.heap.size)
 obtain ⟨W3, hrun3, hm3, hg3⟩ := hm2.put Tryz.underlying101 (by decide) (x := n3) (show n3.length ≤ maxLen by decide) fnRep
 obtain ⟨W4, hrun4, hm4, hg4⟩ := hm3.put Tryz.underlying101 (by decide) (x := n4) (show n4.length ≤ maxLen by decide) fnRep
 obtain ⟨W5, hrun5, hm5, hg5⟩ := hm4.put Tryz.underlying101 (by decide) (x := n5) (show n5.length ≤ maxLen by decide) (fnBy (w.heap.size + 1))
 obtain ⟨W6, hrun6, hm6, hg6⟩ := hm5.put Tryz.underlying101 (by decide) (x := n6) (show n6.length ≤ maxLen by decide) (fnBy (w.heap.size + 1))
 obtain ⟨W7, hrun7, hm7, hg7⟩ := hm6.put Tryz.underlying101 (by decide) (x := n7) (show n7.length ≤ maxLen by decide) (fnBy (w.heap.size + 1 + 1))
 obtain ⟨W8, hrun8, hm8, hg8⟩ := hm7.put Tryz.underlying101 (by decide) (x := n8) (show n8.length ≤ maxLen by decide) (fnBy (w.heap.size + 1 + 1))
 have HM := Lib.hid hm8
 have HG := Lib.hid (show Below (w.heap.size + 1 + 1 + 1) (((w.alloc (.cells #[.func (.func 161) #[] #[]] 100)).alloc (.cells #[.func (.func 162) #[] #[]] 100)).alloc (.cells #[.func (.func 94) #[] #[]] 100)) W8 from by
  have hb0 : Below (w.heap.size + 1 + 1 + 1) (((w.alloc (.cells #[.func (.func 161) #[] #[]] 100)).alloc (.cells #[.func (.func 162) #[] #[]] 100)).alloc (.cells #[.func (.func 94) #[] #[]] 100)) ((((w.alloc (.cells #[.func (.func 161) #[] #[]] 100)).alloc (.cells #[.func (.func 162) #[] #[]] 100)).alloc (.cells #[.func (.func 94) #[] #[]] 100)).alloc (.map #[] 0)) := (Below.refl _ _).alloc (by simp) _
  have hr : ∀ k : Nat, some (w.heap.size + 1 + 1 + 1) = some k → w.heap.size + 1 + 1 + 1 ≤ k := fun k e => by injection e with e; omega
  have hs0 : w.heap.size + 1 + 1 + 1 ≤ ((((w.alloc (.cells #[.func (.func 161) #[] #[]] 100)).alloc (.cells #[.func (.func 162) #[] #[]] 100)).alloc (.cells #[.func (.func 94) #[] #[]] 100)).alloc (.map #[] 0)).heap.size := by simp
  have hb1 := hb0.grown hg1 hs0 hr
  have hb2 := hb1.grown hg2 (by have := hg1.size; omega) hr
  have hb3 := hb2.grown hg3 (by have := hg1.size; have := hg2.size; omega) hr
  have hb4 := hb3.grown hg4 (by have := hg1.size; have := hg2.size; have := hg3.size; omega) hr
  have hb5 := hb4.grown hg5 (by have := hg1.size; have := hg2.size; have := hg3.size; have := hg4.size; omega) hr
  have hb6 := hb5.grown hg6 (by have := hg1.size; have := hg2.size; have := hg3.size; have := hg4.size; have := hg5.size; omega) hr
  have hb7 := hb6.grown hg7 (by have := hg1.size; have := hg2.size; have := hg3.size; have := hg4.size; have := hg5.size; have := hg6.size; omega) hr
  exact hb7.grown hg8 (by have := hg1.size; have := hg2.size; have := hg3.size; have := hg4.size; have := hg5.size; have := hg6.size; have := hg7.size; omega) hr)
 clear hm0 hm1 hm2 hm3 hm4 hm5 hm6 hm7 hm8 hg1 hg2 hg3 hg4 hg5 hg6 hg7 hg8
 unfold strK at hrun1 hrun2 hrun3 hrun4 hrun5 hrun6 hrun7 hrun8
 simp only [n1, n2, n3, n4, n5, n6, n7, n8, fnBy, fnRep, ba] at hrun1 hrun2 hrun3 hrun4 hrun5 hrun6 hrun7 hrun8
 have hmm := @run_makeMap Tryz.prog
 go_enter Tryz.func91, Tryz.ntmps91
 go_wp2_with fail
 refine (bytewise_any _ _).mono ?_
 rintro e w1 ⟨rfl, rfl⟩
 go_wp2_with fail
 refine (bytewise_any _ _).mono ?_
 rintro e w1 ⟨rfl, rfl⟩
 go_wp2_with fail
 refine (bytewise_any _ _).mono ?_
 rintro e w1 ⟨rfl, rfl⟩
 unfold fnBy
 go_wp2_with fail
 go_ret
 refine ⟨_, rfl, ⟨w.heap.size, w.heap.size + 1, w.heap.size + 1 + 1, HM.out.congr fun x _ => readF_upd _ _ _ x, ⟨?_, ?_⟩, ⟨?_, ?_⟩, ?_, ?_⟩, ?_⟩
 ·rw [HG.out.cell (p := ⟨w.heap.size, 0, none⟩) (by show w.heap.size < _; omega)]
  go_simp
 ·have := HG.out.size; simp at this; omega
 ·rw [HG.out.cell (p := ⟨w.heap.size + 1, 0, none⟩) (by show w.heap.size + 1 < _; omega)]
  go_simp
 ·have := HG.out.size; simp at this; omega
 ·rw [HG.out.cell (p := ⟨w.heap.size + 1 + 1, 0, none⟩) (by show w.heap.size + 1 + 1 < _; omega)]
  go_simp
 ·have := HG.out.size; simp at this; omega
 ·exact ((((Below.refl _ _).alloc (Nat.le_refl _) _).alloc (by simp) _).alloc (by simp; omega) _).trans (HG.out.mono (by omega))
theorem zero_fn (w : World) : (zeroValue 36).run Tryz.prog w = .ok .nilFunc w := by kernel_rfl
def decK (k : Nat) (l : List UInt8) : List UInt8 := match k with
 | 1 => bytesBy signA l
 | 2 => repairP l
 | 3 => bytesBy signL l
 | _ => bytesBy signW l
theorem decodeSet_k (name l : List UInt8) : decodeSet name l = decK (setOf (smallP name)) l := rfl
theorem fn_nil (W : World) : (binOp .eql 36 .nilFunc .nilFunc).run Tryz.prog W = .ok (.bool true) W := by kernel_rfl
theorem fn_some (F : Fn) (a c : Array Value) (W : World) : (binOp .eql 36 (.func F a c) .nilFunc).run Tryz.prog W = .ok (.bool false) W := by kernel_rfl
def DecPost (w : World) (name l : List UInt8) (e : Ending) (w' : World) : Prop := e = .returned (.tuple #[.string (ba (decodeSet name l)), .bool (decide (setOf (smallP name) ≠ 0))]) ∧ Below w.heap.size w w'
set_option maxRecDepth 100000 in
set_option maxHeartbeats 4000000 in
theorem decode_big (name l : List UInt8) (w : World) (hn : name.length ≤ 4000000000) (hl : l.length ≤ 1000000000) (hT : Tabs w) :
  Calls Tryz.prog 43 #[.string (ba name), .string (ba l)] w (DecPost w name l) := by
 have hfn := fn_nil
 have hfs := fn_some
 go_enter Tryz.func43, Tryz.ntmps43
 have HT := Lib.hid hT
 clear hT
 go_wp2_with fail
 refine (readers_any w).mono ?_
 rintro e w1 ⟨m, rfl, hR, hb1⟩
 obtain ⟨b1, b2, b3, hm, ⟨hc1, hl1⟩, ⟨hc2, hl2⟩, ⟨hc3, hl3⟩⟩ := hR.ex
 have HM := Lib.hid hm
 have HB1 := Lib.hid hb1
 have HC1 := Lib.hid hc1
 have HC2 := Lib.hid hc2
 have HC3 := Lib.hid hc3
 have HL1 := Lib.hid (And.intro hl1 (And.intro hl2 hl3))
 clear hm hb1 hR hc1 hc2 hc3 hl1 hl2 hl3
 go_wp2_with fail
 refine (chsmall_big name w1 hn).mono ?_
 rintro e w2 ⟨rfl, hb2⟩
 have HB2 := Lib.hid hb2
 clear hb2
 have hlk := (HM.out.below HB2.out).look Tryz.underlying101 (zero_fn w2) (x := smallP name) (show (smallP name).length ≤ maxLen by rw [smallP_len]; unfold maxLen; omega)
 unfold strK at hlk
 dsimp only at hlk
 have hs0 : setOf (smallP name) = 0 ∨ setOf (smallP name) = 1 ∨ setOf (smallP name) = 2 ∨ setOf (smallP name) = 3 ∨ setOf (smallP name) = 4 := by
  unfold setOf
  repeat' split
  all_goals simp
 have HFIN := Lib.hid (show ∀ k v w', setOf (smallP name) = k → decK k l = v → Below w.heap.size w w' → DecPost w name l (.returned (.tuple #[.string (ba v), .bool (decide (k ≠ 0))])) w' from fun k v w' h1 h2 h3 => by
  unfold DecPost
  rw [decodeSet_k, h1, h2]
  exact ⟨rfl, h3⟩)
 have HT2 := Lib.hid ((HT.out.below HB1.out).below (HB2.out))
 have HBB := Lib.hid (HB1.out.trans (HB2.out.mono HB1.out.size))
 unfold readF at hlk
 obtain ⟨k, hk⟩ : ∃ k, setOf (smallP name) = k := ⟨_, rfl⟩
 rw [hk] at hlk hs0
 have HK := Lib.hid hk
 clear hk
 rcases hs0 with rfl | rfl | rfl | rfl | rfl
 ·have BOX := Lib.hid (show Below w.heap.size w2 (w2.alloc (.cells #[.func (.func 94) #[] #[]] 100)) from (Below.refl _ _).alloc HBB.out.size _)
  have hcx : (w2.alloc (.cells #[.func (.func 94) #[] #[]] 100)).cell? ⟨w2.heap.size, 0, none⟩ = some (.func (.func 94) #[] #[]) := by simp
  have HCX := Lib.hid hcx
  clear hcx
  go_wp2_with fail
  refine (bytewise_any _ _).mono ?_
  rintro e w3 ⟨rfl, rfl⟩
  unfold fnBy
  go_wp2_with fail
  refine (by_windows l w2.heap.size (w2.alloc (.cells #[.func (.func 94) #[] #[]] 100)) hl HCX.out (by simp)).mono ?_
  rintro e w4 ⟨rfl, hb4⟩
  have HB4 := Lib.hid hb4
  clear hb4
  go_wp2
  go_ret2
  exact HFIN.out 0 _ _ HK.out rfl (HBB.out.trans ((BOX.out).trans (HB4.out.mono (by have := HBB.out.size; simp; omega))))
 ·unfold fnBy at hlk
  go_wp2_with fail
  refine (by_ascii l b1 w2 hl ((HB2.out.cell (p := ⟨b1, 0, none⟩) HL1.out.1).trans HC1.out) (Nat.lt_of_lt_of_le HL1.out.1 HB2.out.size)).mono ?_
  rintro e w4 ⟨rfl, hb4⟩
  have HB4 := Lib.hid hb4
  clear hb4
  go_wp2
  go_ret2
  exact HFIN.out 1 _ _ HK.out rfl (HBB.out.trans (HB4.out.mono HBB.out.size))
 ·unfold fnRep at hlk
  go_wp2_with fail
  refine (repair_any l w2 hl HT2.out).mono ?_
  rintro e w4 ⟨rfl, hb4⟩
  have HB4 := Lib.hid hb4
  clear hb4
  go_wp2
  go_ret2
  exact HFIN.out 2 _ _ HK.out rfl (HBB.out.trans (HB4.out.mono HBB.out.size))
 ·unfold fnBy at hlk
  go_wp2_with fail
  refine (by_latin l b2 w2 hl ((HB2.out.cell (p := ⟨b2, 0, none⟩) HL1.out.2.1).trans HC2.out) (Nat.lt_of_lt_of_le HL1.out.2.1 HB2.out.size)).mono ?_
  rintro e w4 ⟨rfl, hb4⟩
  have HB4 := Lib.hid hb4
  clear hb4
  go_wp2
  go_ret2
  exact HFIN.out 3 _ _ HK.out rfl (HBB.out.trans (HB4.out.mono HBB.out.size))
 ·unfold fnBy at hlk
  go_wp2_with fail
  refine (by_windows l b3 w2 hl ((HB2.out.cell (p := ⟨b3, 0, none⟩) HL1.out.2.2).trans HC3.out) (Nat.lt_of_lt_of_le HL1.out.2.2 HB2.out.size)).mono ?_
  rintro e w4 ⟨rfl, hb4⟩
  have HB4 := Lib.hid hb4
  clear hb4
  go_wp2
  go_ret2
  exact HFIN.out 4 _ _ HK.out rfl (HBB.out.trans (HB4.out.mono HBB.out.size))
theorem decode_any (name l : List UInt8) (w : World) (hn : name.length ≤ 1000000000) (hl : l.length ≤ 1000000000) (hT : Tabs w) :
  Calls Tryz.prog 43 #[.string (ba name), .string (ba l)] w (DecPost w name l) := decode_big name l w (by omega) hl hT
end Go.Proofs.YthidbmeaccpjdaaGreatDoor
end
section
namespace Go.Proofs.YthidbmeaccpjdaaGreatDoor
open Go.RowKit
set_option linter.unusedVariables false
theorem letter_any (c : UInt8) (w : World) : Calls Tryz.prog 142 #[.int .u8 (c.toNat : Int)] w fun e w' => e = .returned (.bool (letterB c)) ∧ w' = w := by
 obtain ⟨x, hx⟩ : ∃ x : Int, (c.toNat : Int) = x := ⟨_, rfl⟩
 have HF := Lib.hid (fun b => letterV hx (b := b))
 rw [hx]
 clear hx
 go_enter Tryz.func142, Tryz.ntmps142
 go_wp2
 all_goals
  go_ret
  refine ⟨?_, rfl⟩
  rw [HF.out _ rfl]
  show Ending.returned (Value.bool _) = Ending.returned (Value.bool _)
  congr 2
  rw [Bool.eq_iff_iff]
  simp only [Bool.or_eq_true, Bool.and_eq_true, decide_eq_true_iff]
  first | omega | (simp; omega)
theorem wordBytes_index (c : UInt8) : decide (Lib.indexByte wordBytes c < 0) = !wordBytes.contains c := u8_all (fun c => decide (Lib.indexByte wordBytes c < 0) = !wordBytes.contains c) (by decide +kernel) c
theorem windex_any (c : UInt8) (w : World) : Calls Tryz.prog 128 #[.string ⟨#[33, 35, 36, 38, 94, 95, 46, 43, 45]⟩, .int .u8 (c.toNat : Int)] w fun e w' => e = .returned (.int .i64 (Lib.indexByte wordBytes c)) ∧ w' = w := by
 refine (Tryz.strings_IndexByte _ (c.toNat : Int) w).mono ?_
 rintro e w' ⟨rfl, rfl⟩
 rw [u8_back]
 exact ⟨rfl, rfl⟩
set_option maxRecDepth 100000 in
set_option maxHeartbeats 4000000 in
theorem word_any (l : List UInt8) (w : World) (hl : l.length ≤ 1000000000) :
  Calls Tryz.prog 153 #[.string (ba l)] w fun e w' => e = .returned (.bool (isWord l)) ∧ w' = w := by
 have HEM := Lib.hid (show isWord l = (l.all wordB && !l.isEmpty) from rfl)
 have hem : (ba l).toList.isEmpty = l.isEmpty := by rw [ba_toList]
 obtain ⟨n, hn⟩ : ∃ n, l.length = n := ⟨_, rfl⟩
 have HL := Lib.hid hn
 obtain ⟨s, hs⟩ : ∃ s, ba l = s := ⟨_, rfl⟩
 have HS := Lib.hid hs
 have HZ := Lib.hid (show s.size = n by rw [← hs, ba_size, hn])
 have hsz : (s.size : Int) = n := by rw [HZ.out]
 rw [hs]
 rw [hn] at hl
 clear hs hn
 rw [HS.out] at hem
 obtain ⟨em, hem2⟩ : ∃ b, l.isEmpty = b := ⟨_, rfl⟩
 rw [hem2] at hem HEM
 have HES := Lib.hid hem
 clear hem hem2
 go_enter Tryz.func153, Tryz.ntmps153
 go_wp2
 go_loop [6] (fun i => ∃ k : Nat, k ≤ n ∧ i = .int .i64 (k : Int) ∧ Hid ((l.take k).all wordB = true)) (fun i => n - (intOf i).toNat)
 case atStart => exact ⟨0, Nat.zero_le _, rfl, Lib.hid rfl⟩
 case round =>
  obtain ⟨k, hk, rfl, HR⟩ := hrel
  by_cases hlt : k < n
  ·have hk2 : (k : Int) < (n : Int) := by omega
   have hk0 : (0 : Int) ≤ (k : Int) := by omega
   have hks : k < s.size := by rw [HZ.out]; omega
   have hkl : k < l.length := by rw [HL.out]; omega
   have hget : s[k] = l[k] := by
    have h := HS.out
    subst h
    rfl
   have HST := Lib.hid (wb_snoc hkl)
   have HIT := Lib.hid (isWord_stop hkl)
   obtain ⟨c, hc⟩ : ∃ c, l[k] = c := ⟨_, rfl⟩
   rw [hc] at hget HST HIT
   obtain ⟨x, hx⟩ : ∃ x : Int, (c.toNat : Int) = x := ⟨_, rfl⟩
   have hgi : ((s[k]).toNat : Int) = x := by rw [hget]; exact hx
   have HX := Lib.hid hx
   have hx0 : 0 ≤ x := by omega
   have hx1 : x ≤ 255 := by have := c.toNat_lt; omega
   clear hc hkl hget hx
   have HHAS := windex_any c
   have HLET := letter_any c
   have HWI := wordBytes_index c
   rw [HX.out] at HHAS HLET
   have HW := Lib.hid (show wordB c = (letterB c || wordBytes.contains c) from rfl)
   obtain ⟨b1, hb1⟩ : ∃ b, letterB c = b := ⟨_, rfl⟩
   obtain ⟨b2, hb2⟩ : ∃ b, wordBytes.contains c = b := ⟨_, rfl⟩
   obtain ⟨v, hv⟩ : ∃ v, Lib.indexByte wordBytes c = v := ⟨_, rfl⟩
   rw [hb1] at HLET HW
   rw [hb2] at HWI HW
   simp only [hv] at HHAS HWI
   have HA := Lib.hid HHAS
   have HE := Lib.hid HLET
   clear hb1 hb2 hv HHAS HLET
   cases b1
   ·cases b2
    ·have hvn : decide (v < 0) = true := HWI
     have HV := Lib.hid (HIT.out HW.out)
     clear HWI
     go_wp2_with fail
     refine (HE.out _).mono ?_
     rintro e w' ⟨rfl, rfl⟩
     go_wp2_with fail
     refine (HA.out _).mono ?_
     rintro e w' ⟨rfl, rfl⟩
     go_wp2
     go_ret
     exact ⟨by rw [HV.out]; rfl, rfl⟩
    ·have hvn : decide (v < 0) = false := HWI
     have HV := Lib.hid (show (l.take (k + 1)).all wordB = true by rw [HST.out, HR.out, HW.out]; rfl)
     clear HWI
     go_wp2_with fail
     refine (HE.out _).mono ?_
     rintro e w' ⟨rfl, rfl⟩
     go_wp2_with fail
     refine (HA.out _).mono ?_
     rintro e w' ⟨rfl, rfl⟩
     go_wp2
     go_round
     case rel => exact ⟨k + 1, by omega, by go_num, HV⟩
     case measure => simp [intOf] <;> omega
   ·have HV := Lib.hid (show (l.take (k + 1)).all wordB = true by rw [HST.out, HR.out, HW.out]; rfl)
    clear HWI
    go_wp2_with fail
    refine (HE.out _).mono ?_
    rintro e w' ⟨rfl, rfl⟩
    go_wp2
    go_round
    case rel => exact ⟨k + 1, by omega, by go_num, HV⟩
    case measure => simp [intOf] <;> omega
  ·obtain rfl : k = n := by omega
   have HV := Lib.hid (show isWord l = !em by
    rw [HEM.out]
    have := HR.out
    rw [List.take_of_length_le (by rw [HL.out]; exact Nat.le_refl _)] at this
    rw [this]
    rfl)
   have hes := HES.out
   go_wp2
   go_ret
   exact ⟨by rw [HV.out]; rfl, rfl⟩
end Go.Proofs.YthidbmeaccpjdaaGreatDoor
end
section
namespace Go.Proofs.YthidbmeaccpjdaaGreatDoor
open Go.RowKit
set_option linter.unusedVariables false
theorem index_find (c : UInt8) : ∀ l : List UInt8, Lib.index l [c] = findV c l
 | [] => rfl
 | x :: r => by
  have ih := index_find c r
  unfold Lib.index findV cutP
  by_cases h : x = c
  ·subst h
   simp [List.isPrefixOf]
  ·have h2 : List.isPrefixOf [c] (x :: r) = false := by
    simp [List.isPrefixOf]
    exact fun e => h e.symm
   rw [h2, if_neg h, ih]
   unfold findV
   cases hc : cutP c r with
   | none => rfl
   | some q =>
    show (if (false = true) then (0 : Int) else if ((q.1.length : Int) == -1) = true then -1 else (q.1.length : Int) + 1) = ((x :: q.1).length : Int)
    have : ((q.1.length : Int) == -1) = false := by simp
    rw [this]
    simp
def cutV (c : UInt8) (l : List UInt8) : List UInt8 × List UInt8 × Bool := match cutP c l with
 | some q => (q.1, q.2, true)
 | none => (l, [], false)
theorem cut_eq (c : UInt8) (l : List UInt8) : Lib.cut l [c] = cutV c l := by
 unfold Lib.cut cutV
 rw [index_find]
 unfold findV
 cases h : cutP c l with
 | none => rfl
 | some q =>
  obtain ⟨a, b⟩ := q
  have h1 := (cutP_some h).1
  show (if 0 ≤ (a.length : Int) then (l.take (a.length : Int).toNat, l.drop ((a.length : Int).toNat + 1), true) else (l, [], false)) = (a, b, true)
  rw [if_pos (by omega), h1]
  simp
def CutPost (w : World) (c : UInt8) (l : List UInt8) (e : Ending) (w' : World) : Prop := e = .returned (.tuple #[.string (ba (cutV c l).1), .string (ba (cutV c l).2.1), .bool (cutV c l).2.2]) ∧ ∃ n, w' = w.drewN n
theorem cut_any (c : UInt8) (l : List UInt8) (w : World) (hl : l.length ≤ 1000000000) (hT : Tabs w) :
  Calls Tryz.prog 82 #[.string (ba l), .string ⟨#[c]⟩] w (CutPost w c l) := by
 obtain ⟨m, hm⟩ := hT.max
 refine (Tryz.strings_Cut (ba l) ⟨#[c]⟩ m w (by rw [ba_size]; omega) hm).mono ?_
 rintro e w' ⟨rfl, hw⟩
 refine ⟨?_, hw⟩
 have e1 : Lib.cut (ba l).data.toList (⟨#[c]⟩ : ByteArray).data.toList = cutV c l := by rw [ba_list]; exact cut_eq c l
 rw [e1]
 rfl
theorem cutV_len (c : UInt8) (l : List UInt8) : (cutV c l).1.length ≤ l.length ∧ (cutV c l).2.1.length ≤ l.length := by
 unfold cutV
 cases h : cutP c l with
 | none => exact ⟨Nat.le_refl _, Nat.zero_le _⟩
 | some q =>
  obtain ⟨a, b⟩ := q
  have h1 := (cutP_some h).1
  show a.length ≤ l.length ∧ b.length ≤ l.length
  rw [h1]
  simp
  omega
theorem splitP_cut (l : List UInt8) : splitP l = if (cutV 39 l).2.2 = true ∧ (cutV 39 (cutV 39 l).2.1).2.2 = true then ((cutV 39 l).1, (cutV 39 (cutV 39 l).2.1).2.1) else ([], l) := by
 unfold splitP cutV
 cases h : cutP 39 l with
 | none => rfl
 | some q =>
  show (match cutP 39 q.2 with | none => ([], l) | some p => (q.1, p.2)) = _
  cases h2 : cutP 39 q.2 with
  | none => simp
  | some p => simp
def SplitPost (w : World) (l : List UInt8) (e : Ending) (w' : World) : Prop := e = .returned (.tuple #[.string (ba (splitP l).1), .string (ba (splitP l).2)]) ∧ Below w.heap.size w w'
theorem split_fin {w w' : World} {l a b : List UInt8} (h : splitP l = (a, b)) (hb : Below w.heap.size w w') : SplitPost w l (.returned (.tuple #[.string (ba a), .string (ba b)])) w' := by
 unfold SplitPost
 rw [h]
 exact ⟨rfl, hb⟩
set_option maxRecDepth 100000 in
set_option maxHeartbeats 4000000 in
theorem split_any (l : List UInt8) (w : World) (hl : l.length ≤ 1000000000) (hT : Tabs w) :
  Calls Tryz.prog 248 #[.string (ba l)] w (SplitPost w l) := by
 have HC1 := Lib.hid (cut_any 39 l w hl hT)
 have hl2 := cutV_len 39 l
 have HC2 := Lib.hid (fun n => cut_any 39 (cutV 39 l).2.1 (w.drewN n) (by omega) (hT.drewN n))
 have HS := Lib.hid (splitP_cut l)
 unfold CutPost at HC1 HC2
 clear hT hl2
 obtain ⟨⟨a, b, f⟩, hv⟩ : ∃ v, cutV 39 l = v := ⟨_, rfl⟩
 rw [hv] at HC1 HC2 HS
 obtain ⟨⟨c, d, g⟩, hv2⟩ : ∃ v, cutV 39 b = v := ⟨_, rfl⟩
 simp only [hv2] at HC2 HS
 clear hv hv2
 go_enter Tryz.func248, Tryz.ntmps248
 go_wp2_with fail
 refine HC1.out.mono ?_
 rintro e w1 ⟨rfl, n1, rfl⟩
 go_wp2_with fail
 refine (HC2.out n1).mono ?_
 rintro e w1 ⟨rfl, n2, rfl⟩
 have HB := Lib.hid (below_drewN (Below.refl w.heap.size w) (n1 + n2))
 cases f
 ·have HF := Lib.hid (show splitP l = ([], l) by rw [HS.out]; rfl)
  go_wp2
  go_ret2
  exact split_fin HF.out HB.out
 ·cases g
  ·have HF := Lib.hid (show splitP l = ([], l) by rw [HS.out]; rfl)
   go_wp2
   go_ret2
   exact split_fin HF.out HB.out
  ·have HF := Lib.hid (show splitP l = (a, d) by rw [HS.out]; rfl)
   go_wp2
   go_ret2
   exact split_fin HF.out HB.out
set_option maxRecDepth 100000 in
set_option maxHeartbeats 4000000 in
theorem meant_any (name l : List UInt8) (w : World) (hn : name.length ≤ 1000000000) (hl : l.length ≤ 1000000000) (hT : Tabs w) :
  Calls Tryz.prog 249 #[.string (ba name), .string (ba l)] w (StrB w (meantP name l)) := by
 have HR := Lib.hid (repair_any l w hl hT)
 have HD := Lib.hid (decode_any name l w hn hl hT)
 unfold DecPost at HD
 obtain ⟨bb, hbb⟩ : ∃ b, decide (setOf (smallP name) ≠ 0) = b := ⟨_, rfl⟩
 rw [hbb] at HD
 clear hbb hT
 cases name with
 | nil =>
  have g1 : (ba ([] : List UInt8)).toList.isEmpty = true := by rw [ba_toList]; rfl
  have HM := Lib.hid (show meantP [] l = repairP l from rfl)
  go_enter Tryz.func249, Tryz.ntmps249
  go_wp2_with fail
  refine HR.out.mono ?_
  rintro e w1 ⟨rfl, hb⟩
  have HB := Lib.hid hb
  clear hb
  go_wp2
  go_ret
  exact str_fin (by rw [HM.out]) HB.out
 | cons c r =>
  have g1 : (ba (c :: r)).toList.isEmpty = false := by rw [ba_toList]; rfl
  have HM := Lib.hid (show meantP (c :: r) l = decodeSet (c :: r) l by unfold meantP; rw [if_neg (by simp)])
  go_enter Tryz.func249, Tryz.ntmps249
  go_wp2_with fail
  refine HD.out.mono ?_
  rintro e w1 ⟨rfl, hb⟩
  have HB := Lib.hid hb
  clear hb
  go_wp2
  go_ret
  exact str_fin (by rw [HM.out]) HB.out
end Go.Proofs.YthidbmeaccpjdaaGreatDoor
end
section
namespace Go.Proofs.YthidbmeaccpjdaaGreatDoor
open Go.RowKit
set_option linter.unusedVariables false
theorem index_has (c : UInt8) : ∀ l : List UInt8, decide (0 ≤ Lib.indexByte l c) = l.contains c
 | [] => rfl
 | b :: l => by
  have ih := index_has c l
  have hg := Lib.indexByte_ge l c
  unfold Lib.indexByte
  rw [List.contains_cons]
  by_cases h : b = c
  ·subst h
   simp
  ·have h1 : (b == c) = false := by simpa using h
   have h2 : (c == b) = false := by simpa using fun e => h (Eq.symm e)
   rw [h1, h2]
   simp only [Bool.false_eq_true, if_false, Bool.false_or]
   rw [← ih]
   by_cases h3 : Lib.indexByte l c = -1
   ·rw [h3]; rfl
   ·have h4 : (Lib.indexByte l c == -1) = false := by simpa using h3
    rw [h4]
    simp only [Bool.false_eq_true, if_false]
    rw [decide_eq_decide]
    omega
theorem indexb_any (c : UInt8) (l : List UInt8) (w : World) : Calls Tryz.prog 128 #[.string (ba l), .int .u8 (c.toNat : Int)] w fun e w' => e = .returned (.int .i64 (Lib.indexByte l c)) ∧ w' = w := by
 refine (Tryz.strings_IndexByte _ (c.toNat : Int) w).mono ?_
 rintro e w' ⟨rfl, rfl⟩
 rw [u8_back]
 exact ⟨rfl, rfl⟩
def okB (low : UInt8) (but : List UInt8) (c : UInt8) : Bool := decide (low ≤ c ∧ c ≤ 126) && !but.contains c
theorem allB_eq (low : UInt8) (but l : List UInt8) : allB low but l = l.all (okB low but) := rfl
theorem all_snoc {f : UInt8 → Bool} {l : List UInt8} {k : Nat} (hk : k < l.length) (h : (l.take k).all f = true) : (l.take (k + 1)).all f = f l[k] := by
 rw [List.take_succ_eq_append_getElem hk, List.all_append, h]
 simp
theorem all_stop {f : UInt8 → Bool} {l : List UInt8} {k : Nat} (hk : k < l.length) (h : f l[k] = false) : l.all f = false := by
 rw [← Bool.not_eq_true, List.all_eq_true]
 intro h2
 rw [h2 _ (List.getElem_mem hk)] at h
 cases h
theorem okB_low {low c : UInt8} {but : List UInt8} (h : (c.toNat : Int) < (low.toNat : Int)) : okB low but c = false := by
 unfold okB
 rw [decide_eq_false]
 ·rfl
 ·rintro ⟨h1, _⟩
  have := UInt8.le_iff_toNat_le.1 h1
  omega
theorem okB_high {low c : UInt8} {but : List UInt8} (h : (126 : Int) < (c.toNat : Int)) : okB low but c = false := by
 unfold okB
 rw [decide_eq_false]
 ·rfl
 ·rintro ⟨_, h1⟩
  have := UInt8.le_iff_toNat_le.1 h1
  simp at this
  omega
theorem okB_mid {low c : UInt8} {but : List UInt8} (h : ¬ (c.toNat : Int) < (low.toNat : Int)) (h2 : ¬ (126 : Int) < (c.toNat : Int)) : okB low but c = !but.contains c := by
 unfold okB
 rw [decide_eq_true]
 ·rfl
 ·refine ⟨UInt8.le_iff_toNat_le.2 (by omega), UInt8.le_iff_toNat_le.2 ?_⟩
  show c.toNat ≤ 126
  omega
set_option maxRecDepth 100000 in
set_option maxHeartbeats 4000000 in
theorem all_any (l : List UInt8) (low : UInt8) (but : List UInt8) (w : World) (hl : l.length ≤ 1000000000) :
  Calls Tryz.prog 141 #[.string (ba l), .int .u8 (low.toNat : Int), .string (ba but)] w fun e w' => e = .returned (.bool (allB low but l)) ∧ w' = w := by
 have HAB := Lib.hid (allB_eq low but l)
 have HLOW := Lib.hid (fun c => okB_low (low := low) (c := c) (but := but))
 have HHIGH := Lib.hid (fun c => okB_high (low := low) (c := c) (but := but))
 have HMID := Lib.hid (fun c => okB_mid (low := low) (c := c) (but := but))
 have HZL := Lib.hid low.toNat_lt
 obtain ⟨z, hz⟩ : ∃ z : Int, (low.toNat : Int) = z := ⟨_, rfl⟩
 simp only [hz] at HLOW HMID
 rw [hz]
 clear hz
 obtain ⟨n, hn⟩ : ∃ n, l.length = n := ⟨_, rfl⟩
 have HL := Lib.hid hn
 obtain ⟨s, hs⟩ : ∃ s, ba l = s := ⟨_, rfl⟩
 have HS := Lib.hid hs
 have HZ := Lib.hid (show s.size = n by rw [← hs, ba_size, hn])
 have hsz : (s.size : Int) = n := by rw [HZ.out]
 rw [hs]
 rw [hn] at hl
 clear hs hn
 go_enter Tryz.func141, Tryz.ntmps141
 go_wp2
 go_loop [10] (fun i => ∃ k : Nat, k ≤ n ∧ i = .int .i64 (k : Int) ∧ Hid ((l.take k).all (okB low but) = true)) (fun i => n - (intOf i).toNat)
 case atStart => exact ⟨0, Nat.zero_le _, rfl, Lib.hid rfl⟩
 case round =>
  obtain ⟨k, hk, rfl, HR⟩ := hrel
  by_cases hlt : k < n
  ·have hk2 : (k : Int) < (n : Int) := by omega
   have hk0 : (0 : Int) ≤ (k : Int) := by omega
   have hks : k < s.size := by rw [HZ.out]; omega
   have hkl : k < l.length := by rw [HL.out]; omega
   have hget : s[k] = l[k] := by
    have h := HS.out
    subst h
    rfl
   have HST := Lib.hid (all_snoc hkl HR.out)
   have HIT := Lib.hid (all_stop (f := okB low but) hkl)
   obtain ⟨c, hc⟩ : ∃ c, l[k] = c := ⟨_, rfl⟩
   rw [hc] at hget HST HIT
   obtain ⟨x, hx⟩ : ∃ x : Int, (c.toNat : Int) = x := ⟨_, rfl⟩
   have hgi : ((s[k]).toNat : Int) = x := by rw [hget]; exact hx
   have HX := Lib.hid hx
   have hx0 : 0 ≤ x := by omega
   have hx1 : x ≤ 255 := by have := c.toNat_lt; omega
   clear hc hkl hget hx
   have HLO := Lib.hid (HLOW.out c)
   have HHI := Lib.hid (HHIGH.out c)
   have HMI := Lib.hid (HMID.out c)
   have HHAS := indexb_any c but w
   have HWI := index_has c but
   rw [HX.out] at HLO HHI HMI HHAS
   obtain ⟨b2, hb2⟩ : ∃ b, but.contains c = b := ⟨_, rfl⟩
   obtain ⟨v, hv⟩ : ∃ v, Lib.indexByte but c = v := ⟨_, rfl⟩
   rw [hb2] at HWI HMI
   rw [hv] at HHAS HWI
   have HA := Lib.hid HHAS
   clear hb2 hv HHAS
   by_cases h1 : x < z
   ·have HV := Lib.hid (HIT.out (HLO.out h1))
    clear HWI
    go_wp2
    go_ret
    exact ⟨by rw [HAB.out, HV.out]; rfl, rfl⟩
   ·by_cases h2 : 126 < x
    ·have HV := Lib.hid (HIT.out (HHI.out h2))
     clear HWI
     go_wp2
     go_ret
     exact ⟨by rw [HAB.out, HV.out]; rfl, rfl⟩
    ·have HM := Lib.hid (HMI.out (by omega) (by omega))
     cases b2
     ·have hvn : decide (0 ≤ v) = false := HWI
      have HV := Lib.hid (show (l.take (k + 1)).all (okB low but) = true by rw [HST.out, HM.out]; rfl)
      clear HWI
      go_wp2_with fail
      refine HA.out.mono ?_
      rintro e w' ⟨rfl, rfl⟩
      go_wp2
      go_round
      case rel => exact ⟨k + 1, by omega, by go_num, HV⟩
      case measure => simp [intOf] <;> omega
     ·have hvn : decide (0 ≤ v) = true := HWI
      have HV := Lib.hid (HIT.out HM.out)
      clear HWI
      go_wp2_with fail
      refine HA.out.mono ?_
      rintro e w' ⟨rfl, rfl⟩
      go_wp2
      go_ret
      exact ⟨by rw [HAB.out, HV.out]; rfl, rfl⟩
  ·obtain rfl : k = n := by omega
   have HV := Lib.hid (show allB low but l = true by
    rw [HAB.out]
    have := HR.out
    rw [List.take_of_length_le (by rw [HL.out]; exact Nat.le_refl _)] at this
    exact this)
   go_wp2
   go_ret
   exact ⟨by rw [HV.out]; rfl, rfl⟩
end Go.Proofs.YthidbmeaccpjdaaGreatDoor
end
section
namespace Go.Proofs.YthidbmeaccpjdaaGreatDoor
open Go.RowKit
set_option linter.unusedVariables false
theorem indexV (c : UInt8) (l : List UInt8) : Lib.indexByte l c = match cutP c l with
  | some q => (q.1.length : Int)
  | none => -1 := by
 cases h : cutP c l with
 | none =>
  have h1 := cutP_none.1 h
  rcases Int.lt_or_le (Lib.indexByte l c) 0 with h2 | h2
  ·have h3 := Lib.indexByte_ge l c
   show _ = -1
   omega
  ·obtain ⟨o, ho⟩ : ∃ o : Nat, Lib.indexByte l c = o := ⟨(Lib.indexByte l c).toNat, by omega⟩
   have h4 := (Lib.indexByte_some ho).1
   exact absurd (List.mem_of_getElem? h4) h1
 | some q =>
  obtain ⟨a, b⟩ := q
  have h1 := cutP_some h
  show _ = (a.length : Int)
  have h0 : l[a.length]? = some c := by rw [h1.1]; simp
  rcases Int.lt_or_le (Lib.indexByte l c) 0 with h2 | h2
  ·have h3 := Lib.indexByte_ge l c
   exact absurd h0 (Lib.indexByte_none (by omega) a.length)
  ·obtain ⟨o, ho⟩ : ∃ o : Nat, Lib.indexByte l c = o := ⟨(Lib.indexByte l c).toNat, by omega⟩
   have h4 := Lib.indexByte_some ho
   rw [ho]
   rcases Nat.lt_trichotomy o a.length with h5 | h5 | h5
   ·have h6 := h4.1
    rw [h1.1, List.getElem?_append_left h5] at h6
    exact absurd (List.mem_of_getElem? h6) h1.2
   ·rw [h5]
   ·exact absurd h0 (h4.2 _ h5)
theorem hend_any (l : List UInt8) (w : World) (hl : l.length ≤ 1000000000) :
  Calls Tryz.prog 147 #[.string (ba l)] w fun e w' => e = .returned (.int .i64 (endP l : Nat)) ∧ w' = w := by
 have HIX := Lib.hid (indexb_any 10 l w)
 rw [indexV] at HIX
 cases h : cutP 10 l with
 | none =>
  have HF := Lib.hid (show endP l = l.length by unfold endP; rw [h])
  have hz : ((ba l).size : Int) = (l.length : Nat) := by rw [ba_size]
  rw [h] at HIX
  have HIY := Lib.hid (show Calls Tryz.prog 128 #[.string (ba l), .int .u8 ((10 : UInt8).toNat : Int)] w (fun e w' => e = .returned (.int .i64 (-1)) ∧ w' = w) from HIX.out)
  clear h HIX
  go_enter Tryz.func147, Tryz.ntmps147
  go_wp2_with fail
  refine HIY.out.mono ?_
  rintro e w2 ⟨rfl, hw⟩
  have hw2 := hw.symm
  subst hw2
  clear hw
  go_wp2
  go_ret
  exact ⟨by rw [HF.out]; rfl, rfl⟩
 | some q =>
  have hq := (cutP_some (a := q.1) (b := q.2) h).1
  have hql : q.1.length ≤ 1000000000 := by rw [hq] at hl; simp at hl; omega
  have HF := Lib.hid (show endP l = q.1.length + 1 by unfold endP; rw [h])
  rw [h] at HIX
  have HIY := Lib.hid (show Calls Tryz.prog 128 #[.string (ba l), .int .u8 ((10 : UInt8).toNat : Int)] w (fun e w' => e = .returned (.int .i64 (q.1.length : Int)) ∧ w' = w) from HIX.out)
  obtain ⟨m, hm⟩ : ∃ m, q.1.length = m := ⟨_, rfl⟩
  rw [hm] at HIY HF hql
  have hm0 : (0 : Int) ≤ (m : Int) := by omega
  have hmi : (m : Int) ≤ 1000000000 := by omega
  clear h HIX hq hm
  go_enter Tryz.func147, Tryz.ntmps147
  go_wp2_with fail
  refine HIY.out.mono ?_
  rintro e w2 ⟨rfl, hw⟩
  have hw2 := hw.symm
  subst hw2
  clear hw
  go_wp2
  go_ret
  exact ⟨by rw [HF.out]; rfl, rfl⟩
theorem tab_index (c : UInt8) : decide (0 ≤ Lib.indexByte [32, 9] c) = tabB c := by
 rw [indexV]
 unfold tabB cutP cutP cutP
 by_cases h1 : c = 32
 ·subst h1; rfl
 ·by_cases h2 : c = 9
  ·subst h2; rfl
  ·rw [if_neg (fun h => h1 h.symm), if_neg (fun h => h2 h.symm), decide_eq_false h1, decide_eq_false h2]
   rfl
theorem hgoes_any (l : List UInt8) (w : World) : Calls Tryz.prog 69 #[.string (ba l)] w fun e w' => e = .returned (.bool (goesP l)) ∧ w' = w := by
 cases l with
 | nil =>
  have g1 : (ba ([] : List UInt8)).toList.isEmpty = true := by rw [ba_toList]; rfl
  go_enter Tryz.func69, Tryz.ntmps69
  go_wp2
  go_ret
  exact ⟨rfl, rfl⟩
 | cons c r =>
  have g1 : (ba (c :: r)).toList.isEmpty = false := by rw [ba_toList]; rfl
  have HIX := Lib.hid (show Calls Tryz.prog 128 #[.string ⟨#[32, 9]⟩, .int .u8 (c.toNat : Int)] w (fun e w' => e = .returned (.int .i64 (Lib.indexByte [32, 9] c)) ∧ w' = w) from indexb_any c [32, 9] w)
  have HV := Lib.hid (show goesP (c :: r) = decide (0 ≤ Lib.indexByte [32, 9] c) from (tab_index c).symm)
  obtain ⟨v, hv⟩ : ∃ v, Lib.indexByte [32, 9] c = v := ⟨_, rfl⟩
  obtain ⟨o, ho⟩ : ∃ b, goesP (c :: r) = b := ⟨_, rfl⟩
  rw [hv] at HIX HV
  rw [ho] at HV ⊢
  have hsz : 0 < (ba (c :: r)).size := by rw [ba_size]; simp
  obtain ⟨x, hx⟩ : ∃ x : Int, (c.toNat : Int) = x := ⟨_, rfl⟩
  have hgi : ∃ h : 0 < (ba (c :: r)).size, (((ba (c :: r))[0]'h).toNat : Int) = x := ⟨hsz, hx⟩
  rw [hx] at HIX
  obtain ⟨s, hs⟩ : ∃ s, ba (c :: r) = s := ⟨_, rfl⟩
  rw [hs] at g1 hgi ⊢
  clear hs hv ho hx hsz
  obtain ⟨hsz, hgj⟩ := hgi
  go_enter Tryz.func69, Tryz.ntmps69
  go_wp2_with fail
  refine HIX.out.mono ?_
  rintro e w2 ⟨rfl, hw⟩
  have hw2 := hw.symm
  subst hw2
  clear hw
  go_wp2
  go_ret
  exact ⟨by rw [HV.out]; rfl, rfl⟩
def trimC (c : UInt8) (l : List UInt8) : List UInt8 := if l.getLast? = some c then l.dropLast else l
theorem suffix_one (c : UInt8) (l : List UInt8) : Lib.hasSuffix l [c] = decide (l.getLast? = some c) := by
 unfold Lib.hasSuffix
 rw [Bool.eq_iff_iff, decide_eq_true_iff, List.isSuffixOf_iff_suffix]
 constructor
 ·rintro ⟨t, rfl⟩
  simp
 ·intro h
  obtain ⟨t, ht⟩ := List.getLast?_eq_some_iff.1 h
  exact ⟨t, ht.symm⟩
theorem trimC_eq (c : UInt8) (l : List UInt8) : Lib.trimSuffix l [c] = trimC c l := by
 unfold Lib.trimSuffix trimC
 rw [suffix_one]
 by_cases h : l.getLast? = some c
 ·rw [decide_eq_true h, if_pos rfl, if_pos h, List.dropLast_eq_take]
  rfl
 ·rw [decide_eq_false h, if_neg h]
  rfl
theorem cutsuf_any (c : UInt8) (l : List UInt8) (w : World) (hl : l.length ≤ 1000000000) :
  Calls Tryz.prog 194 #[.string (ba l), .string ⟨#[c]⟩] w fun e w' => e = .returned (.tuple #[.string (ba (trimC c l)), .bool (decide (l.getLast? = some c))]) ∧ w' = w := by
 refine (Tryz.strings_CutSuffix (ba l) ⟨#[c]⟩ w (by rw [ba_size]; omega)).mono ?_
 rintro e w' ⟨rfl, rfl⟩
 refine ⟨?_, rfl⟩
 have e1 : Lib.trimSuffix (ba l).data.toList (⟨#[c]⟩ : ByteArray).data.toList = trimC c l := by rw [ba_list]; exact trimC_eq c l
 have e2 : Lib.hasSuffix (ba l).data.toList (⟨#[c]⟩ : ByteArray).data.toList = decide (l.getLast? = some c) := by rw [ba_list]; exact suffix_one c l
 rw [e1, e2]
 rfl
theorem trimsuf_any (c : UInt8) (l : List UInt8) (w : World) (hl : l.length ≤ 1000000000) :
  Calls Tryz.prog 195 #[.string (ba l), .string ⟨#[c]⟩] w fun e w' => e = .returned (.string (ba (trimC c l))) ∧ w' = w := by
 refine (Tryz.strings_TrimSuffix (ba l) ⟨#[c]⟩ w (by rw [ba_size]; omega)).mono ?_
 rintro e w' ⟨rfl, rfl⟩
 refine ⟨?_, rfl⟩
 have e1 : Lib.trimSuffix (ba l).data.toList (⟨#[c]⟩ : ByteArray).data.toList = trimC c l := by rw [ba_list]; exact trimC_eq c l
 rw [e1]
 rfl
theorem hbare_any (l : List UInt8) (w : World) (hl : l.length ≤ 1000000000) :
  Calls Tryz.prog 148 #[.string (ba l)] w fun e w' => e = .returned (.string (ba (nudeP l))) ∧ w' = w := by
 have HC := Lib.hid (cutsuf_any 10 l w hl)
 by_cases h : l.getLast? = some 10
 ·have HF := Lib.hid (show nudeP l = trimC 13 (trimC 10 l) by unfold nudeP trimC; rw [if_pos h, if_pos h])
  have HT := Lib.hid (trimsuf_any 13 (trimC 10 l) w (by unfold trimC; rw [if_pos h, List.length_dropLast]; omega))
  rw [decide_eq_true h] at HC
  clear h
  go_enter Tryz.func148, Tryz.ntmps148
  go_wp2_with fail
  refine HC.out.mono ?_
  rintro e w2 ⟨rfl, hw⟩
  have hw2 := hw.symm
  subst hw2
  clear hw
  go_wp2_with fail
  refine HT.out.mono ?_
  rintro e w2 ⟨rfl, hw⟩
  have hw2 := hw.symm
  subst hw2
  clear hw
  go_wp2
  go_ret
  exact ⟨by rw [HF.out]; rfl, rfl⟩
 ·have HF := Lib.hid (show nudeP l = l by unfold nudeP; rw [if_neg h])
  rw [decide_eq_false h] at HC
  clear h
  go_enter Tryz.func148, Tryz.ntmps148
  go_wp2_with fail
  refine HC.out.mono ?_
  rintro e w2 ⟨rfl, hw⟩
  have hw2 := hw.symm
  subst hw2
  clear hw
  go_wp2
  go_ret
  exact ⟨by rw [HF.out]; rfl, rfl⟩
theorem nameB_int (c : UInt8) {x : Int} (h : (c.toNat : Int) = x) : nameB c = (!(decide (x ≤ 32) || decide (126 < x) || x == 58)) := by
 unfold nameB
 have e1 : (33 ≤ c ∧ c ≤ 126) ↔ (33 ≤ x ∧ x ≤ 126) := by
  rw [UInt8.le_iff_toNat_le, UInt8.le_iff_toNat_le]
  show (33 : Nat) ≤ _ ∧ _ ≤ (126 : Nat) ↔ _
  omega
 have e2 : c ≠ 58 ↔ x ≠ 58 := by
  rw [← h]
  constructor
  ·intro h2 h3
   exact h2 (UInt8.toNat_inj.1 (by show c.toNat = 58; omega))
  ·rintro h2 rfl
   exact h2 rfl
 rw [Bool.eq_iff_iff]
 simp only [e1, e2, Bool.and_eq_true, decide_eq_true_eq, Bool.not_eq_true', Bool.or_eq_false_iff, decide_eq_false_iff_not, beq_eq_false_iff_ne]
 omega
theorem nameOk_stop {l : List UInt8} {k : Nat} (hk : k < l.length) (h : nameB l[k] = false) : nameOk l = false := by
 unfold nameOk
 rw [all_stop hk h]
 rfl
set_option maxRecDepth 100000 in
set_option maxHeartbeats 4000000 in
theorem hright_any (l : List UInt8) (w : World) (hl : l.length ≤ 1000000000) :
  Calls Tryz.prog 65 #[.string (ba l)] w fun e w' => e = .returned (.bool (nameOk l)) ∧ w' = w := by
 have HEM := Lib.hid (show nameOk l = (l.all nameB && !(ba l).toList.isEmpty) by rw [ba_toList]; rfl)
 obtain ⟨be, hbe⟩ : ∃ b, (ba l).toList.isEmpty = b := ⟨_, rfl⟩
 rw [hbe] at HEM
 obtain ⟨n, hn⟩ : ∃ n, l.length = n := ⟨_, rfl⟩
 have HL := Lib.hid hn
 obtain ⟨s, hs⟩ : ∃ s, ba l = s := ⟨_, rfl⟩
 have HS := Lib.hid hs
 have HZ := Lib.hid (show s.size = n by rw [← hs, ba_size, hn])
 have hsz : (s.size : Int) = n := by rw [HZ.out]
 rw [hs]
 rw [hn] at hl
 clear hs hn
 rw [HS.out] at hbe
 go_enter Tryz.func65, Tryz.ntmps65
 go_wp2
 go_loop [3, 4, 7] (fun a b i => ∃ (k : Nat) (y z : Value), a = y ∧ b = z ∧ k ≤ n ∧ i = .int .i64 (k : Int) ∧ Hid ((l.take k).all nameB = true)) (fun _ _ i => n - (intOf i).toNat)
 case atStart => exact ⟨0, _, _, rfl, rfl, Nat.zero_le _, rfl, Lib.hid rfl⟩
 case round =>
  obtain ⟨k, y, z, rfl, rfl, hk, rfl, HR⟩ := hrel
  by_cases hlt : k < n
  ·have hk2 : (k : Int) < (n : Int) := by omega
   have hk0 : (0 : Int) ≤ (k : Int) := by omega
   have hks : k < s.size := by rw [HZ.out]; omega
   have hkl : k < l.length := by rw [HL.out]; omega
   have hget : s[k] = l[k] := by
    have h := HS.out
    subst h
    rfl
   have HST := Lib.hid (all_snoc (f := nameB) hkl HR.out)
   have HIT := Lib.hid (nameOk_stop hkl)
   obtain ⟨c, hc⟩ : ∃ c, l[k] = c := ⟨_, rfl⟩
   rw [hc] at hget HST HIT
   obtain ⟨x, hx⟩ : ∃ x : Int, (c.toNat : Int) = x := ⟨_, rfl⟩
   have hgi : ((s[k]).toNat : Int) = x := by rw [hget]; exact hx
   have HX := Lib.hid hx
   have hx0 : 0 ≤ x := by omega
   have hx1 : x ≤ 255 := by have := c.toNat_lt; omega
   clear hc hkl hget hx
   have HNB := Lib.hid (nameB_int c HX.out)
   by_cases e1 : x ≤ 32
   ·have g1 : decide (x ≤ 32) = true := decide_eq_true e1
    have HV := Lib.hid (HIT.out (by rw [HNB.out, g1]; rfl))
    clear e1
    go_wp2
    go_ret
    exact ⟨by rw [HV.out]; rfl, rfl⟩
   ·have g1 : decide (x ≤ 32) = false := decide_eq_false e1
    by_cases e2 : 126 < x
    ·have g2 : decide (126 < x) = true := decide_eq_true e2
     have HV := Lib.hid (HIT.out (by rw [HNB.out, g1, g2]; rfl))
     clear e1 e2
     go_wp2
     go_ret
     exact ⟨by rw [HV.out]; rfl, rfl⟩
    ·have g2 : decide (126 < x) = false := decide_eq_false e2
     by_cases e3 : x = 58
     ·have g3 : (x == 58) = true := by simpa using e3
      have HV := Lib.hid (HIT.out (by rw [HNB.out, g1, g2, g3]; rfl))
      clear e1 e2 e3
      go_wp2
      go_ret
      exact ⟨by rw [HV.out]; rfl, rfl⟩
     ·have g3 : (x == 58) = false := by simpa using e3
      have HV := Lib.hid (show (l.take (k + 1)).all nameB = true by rw [HST.out, HNB.out, g1, g2, g3]; rfl)
      clear e1 e2 e3
      go_wp2
      go_round
      case rel => exact ⟨k + 1, _, _, rfl, rfl, by omega, by go_num, HV⟩
      case measure => simp [intOf] <;> omega
  ·obtain rfl : k = n := by omega
   have HV := Lib.hid (show nameOk l = !be by
    have := HR.out
    rw [List.take_of_length_le (by rw [HL.out]; exact Nat.le_refl _)] at this
    rw [HEM.out, this]
    rfl)
   cases be
   all_goals
    go_wp2
    go_ret
    exact ⟨by rw [HV.out]; rfl, rfl⟩
theorem htrim_any (l : List UInt8) (w : World) (hl : l.length ≤ 1000000000) :
  Calls Tryz.prog 68 #[.string (ba l), .string ⟨#[32, 9]⟩] w (StrB w (Lib.trimS l blanksP)) := by
 refine (Any.strings_Trim_laid Tryz.lays160 (by kernel_rfl) (ba l) ⟨#[32, 9]⟩ w (by rw [ba_size]; omega) (by decide) (ascii_of_all (by decide))).mono ?_
 rintro e w' ⟨rfl, hb⟩
 refine ⟨?_, hb⟩
 rw [ba_list]
 rfl
theorem htrimR_any (l : List UInt8) (w : World) (hl : l.length ≤ 1000000000) :
  Calls Tryz.prog 85 #[.string (ba l), .string ⟨#[32, 9]⟩] w (StrB w (Lib.trimRightS l blanksP)) := by
 refine (Any.strings_TrimRight_laid Tryz.lays162 (by kernel_rfl) (ba l) ⟨#[32, 9]⟩ w (by rw [ba_size]; omega) (by decide) (ascii_of_all (by decide))).mono ?_
 rintro e w' ⟨rfl, hb⟩
 refine ⟨?_, hb⟩
 rw [ba_list]
 rfl
theorem repall_any (old l : List UInt8) (w : World) (h : old ≠ []) (hl : l.length ≤ 1000000000) (hT : Tabs w) :
  Calls Tryz.prog 44 #[.string (ba l), .string (ba old), .string ⟨#[]⟩] w (StrB w (repA old [] l)) := by
 obtain ⟨m, hm⟩ := hT.max
 refine (Tryz.strings_ReplaceAll (ba l) (ba old) ⟨#[]⟩ m w (by rw [ba_size]; omega) hm (by rw [ba_size]; cases old with | nil => exact absurd rfl h | cons c r => simp) (by rw [ba_size]; show l.length + _ * 0 ≤ _; omega)).mono ?_
 rintro e w' ⟨rfl, hb⟩
 refine ⟨?_, hb⟩
 rw [ba_list, ba_list]
 have e1 : Lib.replaceAll l old (⟨#[]⟩ : ByteArray).data.toList = repA old [] l := replaceAll_eq h l
 rw [e1]
 rfl
theorem hunfold_any (l : List UInt8) (w : World) (hl : l.length ≤ 1000000000) (hT : Tabs w) :
  Calls Tryz.prog 198 #[.string (ba l)] w (StrB w (unfoldP l)) := by
 have HR1 := Lib.hid (show Calls Tryz.prog 44 #[.string (ba l), .string ⟨#[13, 10]⟩, .string ⟨#[]⟩] w (StrB w (repA [13, 10] [] l)) from repall_any [13, 10] l w (by simp) hl hT)
 rw [crlf_eq _ l (Nat.le_refl _)] at HR1
 have hlen := crlfP_len _ l (Nat.le_refl _)
 have HR2 := Lib.hid (show ∀ W, Below w.heap.size w W → Calls Tryz.prog 44 #[.string (ba (crlfP l)), .string ⟨#[10]⟩, .string ⟨#[]⟩] W (StrB W (unfoldP l)) from fun W hW => by
  have h := repall_any [10] (crlfP l) W (by simp) (by omega) (hT.below hW)
  rw [lf_eq] at h
  exact h)
 clear hlen hT
 go_enter Tryz.func198, Tryz.ntmps198
 go_wp2_with fail
 refine HR1.out.mono ?_
 rintro e w1 ⟨rfl, hb1⟩
 have HB1 := Lib.hid hb1
 clear hb1
 go_wp2_with fail
 refine (HR2.out w1 HB1.out).mono ?_
 rintro e w2 ⟨rfl, hb2⟩
 have HB2 := Lib.hid (HB1.out.trans (hb2.mono HB1.out.size))
 clear hb2
 go_wp2
 go_ret
 exact ⟨rfl, HB2.out⟩
end Go.Proofs.YthidbmeaccpjdaaGreatDoor
end
section
namespace Go.Proofs.YthidbmeaccpjdaaGreatDoor
open Go.RowKit
set_option linter.unusedVariables false
theorem cutpre_any (p l : List UInt8) (w : World) :
  Calls Tryz.prog 110 #[.string (ba l), .string (ba p)] w fun e w' => e = .returned (.tuple #[.string (ba (if p.isPrefixOf l = true then l.drop p.length else l)), .bool (p.isPrefixOf l)]) ∧ w' = w :=
 (Tryz.strings_CutPrefix (ba l) (ba p) w).mono fun e w' ⟨he, hw⟩ => ⟨he, hw⟩
theorem dropW_nil {p : UInt8 → Bool} : ∀ {l : List UInt8}, l.dropWhile p = [] ↔ ∀ x ∈ l, p x = true
 | [] => by simp
 | c :: r => by
  rw [List.dropWhile_cons]
  split
  ·rename_i h
   rw [dropW_nil]
   simp [h]
  ·rename_i h
   simp [h]
theorem trim_tabs (x : List UInt8) : ((ba (Lib.trimS x blanksP)).toList == []) = x.all tabB ∧ ((ba (Lib.trimS x blanksP)).toList.isEmpty) = x.all tabB := by
 have hc : ∀ c, blanksP.contains c = tabB c := fun c => by
  unfold blanksP tabB
  rw [Bool.eq_iff_iff]
  simp
 have key : (Lib.trimS x blanksP).isEmpty = x.all tabB := by
  unfold Lib.trimS Lib.trimLeftS Lib.trimRightS
  simp only [hc]
  rw [Bool.eq_iff_iff, List.isEmpty_iff, dropW_nil, List.all_eq_true]
  constructor
  ·intro h c hm
   by_cases hall : (x.reverse.dropWhile tabB) = []
   ·rw [dropW_nil] at hall
    exact hall c (by simpa using hm)
   ·have hne := List.head_dropWhile_not tabB hall
    have := h _ (List.mem_reverse.2 (List.head_mem hall))
    rw [hne] at this
    cases this
  ·intro h c hm
   rw [List.mem_reverse] at hm
   have := (List.dropWhile_suffix (l := x.reverse) tabB).subset hm
   exact h c (by simpa using this)
 rw [ba_toList]
 refine ⟨?_, key⟩
 rw [← key]
 cases Lib.trimS x blanksP <;> rfl
theorem bndP_no {l b : List UInt8} (h : (([45, 45] : List UInt8) ++ b).isPrefixOf l = false) : bndP l b = (false, false) := by
 unfold bndP
 rw [h]
 rfl
theorem bndP_yes {l b r r1 : List UInt8} {s : Bool} (h : (([45, 45] : List UInt8) ++ b).isPrefixOf l = true) (hr : l.drop (b.length + 2) = r) (hs : ([45, 45] : List UInt8).isPrefixOf r = s) (h1 : (if s = true then r.drop 2 else r) = r1) : bndP l b = ((nudeP r1).all tabB, s) := by
 subst hr hs h1
 unfold bndP
 rw [if_pos h]
def BndPost (w : World) (q : Bool × Bool) (e : Ending) (w' : World) : Prop := e = .returned (.tuple #[.bool q.1, .bool q.2]) ∧ Below w.heap.size w w'
set_option maxRecDepth 100000 in
set_option maxHeartbeats 4000000 in
theorem boundary_any (l b : List UInt8) (w : World) (hl : l.length ≤ 1000000000) (hb : b.length ≤ 1000000000000000) :
  Calls Tryz.prog 146 #[.string (ba l), .string (ba b)] w (BndPost w (bndP l b)) := by
 have hap : (⟨#[45, 45]⟩ : ByteArray) ++ ba b = ba ([45, 45] ++ b) := (ba_append [45, 45] b).symm ▸ rfl
 have hln : ¬ 9223372036854775807 < (⟨#[45, 45]⟩ : ByteArray).size + (ba b).size := by rw [ba_size]; show ¬ _ < 2 + b.length; omega
 have HAP := Lib.hid hap
 have HC1 := Lib.hid (fun W => cutpre_any ([45, 45] ++ b) l W)
 cases h1 : (([45, 45] : List UInt8) ++ b).isPrefixOf l with
 | false =>
  have HF := Lib.hid (bndP_no h1)
  simp only [h1] at HC1
  clear h1
  go_enter Tryz.func146, Tryz.ntmps146
  go_wp2_with fail
  refine (HC1.out _).mono ?_
  rintro e w2 ⟨rfl, rfl⟩
  go_wp2
  go_ret2
  unfold BndPost
  rw [HF.out]
  exact ⟨rfl, Below.refl _ _⟩
 | true =>
  simp only [h1] at HC1
  obtain ⟨r, hr⟩ : ∃ r, l.drop (b.length + 2) = r := ⟨_, rfl⟩
  have hrl : r.length ≤ 1000000000 := by rw [← hr, List.length_drop]; omega
  obtain ⟨s, hs⟩ : ∃ s, ([45, 45] : List UInt8).isPrefixOf r = s := ⟨_, rfl⟩
  obtain ⟨r1, hr1⟩ : ∃ r1, (if s = true then r.drop 2 else r) = r1 := ⟨_, rfl⟩
  have hr1l : r1.length ≤ 1000000000 := by rw [← hr1]; split; rw [List.length_drop]; omega; exact hrl
  have HF := Lib.hid (bndP_yes h1 hr hs hr1)
  have HC2 := Lib.hid (fun W => cutpre_any [45, 45] r W)
  simp only [hs] at HC2
  have e2 : ([45, 45] ++ b : List UInt8).length = b.length + 2 := by simp
  simp only [if_true, e2, hr] at HC1
  have HC3 := Lib.hid (fun W => cutsuf_any 10 r1 W hr1l)
  have HC2' := Lib.hid (show ∀ W, Calls Tryz.prog 110 #[.string (ba r), .string ⟨#[45, 45]⟩] W fun e w' => e = .returned (.tuple #[.string (ba r1), .bool s]) ∧ w' = W from fun W => by
   have := HC2.out W
   rw [show (if s = true then r.drop ([45, 45] : List UInt8).length else r) = r1 from hr1] at this
   exact this)
  clear h1 hr hs hr1 e2 HC2
  by_cases h10 : r1.getLast? = some 10
  ·have HT := Lib.hid (fun W => trimsuf_any 13 (trimC 10 r1) W (by unfold trimC; rw [if_pos h10, List.length_dropLast]; omega))
   have HN := Lib.hid (show nudeP r1 = trimC 13 (trimC 10 r1) by unfold nudeP trimC; rw [if_pos h10, if_pos h10])
   have HNL := nudeP_len r1
   obtain ⟨x, hx⟩ : ∃ x, nudeP r1 = x := ⟨_, rfl⟩
   rw [hx] at HN HF HNL
   rw [← HN.out] at HT
   rw [decide_eq_true h10] at HC3
   have HTR := Lib.hid (fun W => htrim_any x W (by omega))
   have ht := trim_tabs x
   have g1 := ht.1
   have g2 := ht.2
   clear h10 hx HN ht
   unfold StrB at HTR
   go_enter Tryz.func146, Tryz.ntmps146
   go_wp2_with fail
   refine (HC1.out _).mono ?_
   rintro e w2 ⟨rfl, rfl⟩
   go_wp2_with fail
   refine (HC2'.out _).mono ?_
   rintro e w2 ⟨rfl, rfl⟩
   go_wp2_with fail
   refine (HC3.out _).mono ?_
   rintro e w2 ⟨rfl, rfl⟩
   go_wp2_with fail
   refine (HT.out _).mono ?_
   rintro e w2 ⟨rfl, rfl⟩
   go_wp2_with fail
   refine (HTR.out _).mono ?_
   rintro e w2 ⟨rfl, hb2⟩
   have HB2 := Lib.hid hb2
   clear hb2
   go_wp2
   go_ret2
   unfold BndPost
   rw [HF.out]
   exact ⟨rfl, HB2.out⟩
  ·have HN := Lib.hid (show nudeP r1 = r1 by unfold nudeP; rw [if_neg h10])
   rw [HN.out] at HF
   rw [decide_eq_false h10] at HC3
   have HTR := Lib.hid (fun W => htrim_any r1 W (by omega))
   have ht := trim_tabs r1
   have g1 := ht.1
   have g2 := ht.2
   clear h10 HN ht
   unfold StrB at HTR
   go_enter Tryz.func146, Tryz.ntmps146
   go_wp2_with fail
   refine (HC1.out _).mono ?_
   rintro e w2 ⟨rfl, rfl⟩
   go_wp2_with fail
   refine (HC2'.out _).mono ?_
   rintro e w2 ⟨rfl, rfl⟩
   go_wp2_with fail
   refine (HC3.out _).mono ?_
   rintro e w2 ⟨rfl, rfl⟩
   go_wp2_with fail
   refine (HTR.out _).mono ?_
   rintro e w2 ⟨rfl, hb2⟩
   have HB2 := Lib.hid hb2
   clear hb2
   go_wp2
   go_ret2
   unfold BndPost
   rw [HF.out]
   exact ⟨rfl, HB2.out⟩
end Go.Proofs.YthidbmeaccpjdaaGreatDoor
end
