/- Layer 4: the contracts of Runes, Rune, joined and Repair. Layer 4: the contracts of ascii, latin and windows. A region that draws its order: operations that only read, then a forced tail. Layer 4: the contracts of what bytewise makes (printed by gen_bytewise.py). Maps of the call's own, told key by key (no range): strings as keys. Maps of the call's own, told key by key: spots as keys. The contract of small (charset). -/
import Derived.StillTailTactics
import Derived.Maps.OwnSet
import Derived.Maps.OwnOps
import Derived.Maps.Views
import Derived.WideKeyEntry
import Derived.DeepKeys4
import Derived.Test.YthidbmeaccpjdaaGreatDoorM06
import Derived.Test.YthidbmeaccpjdaaGreatDoorM01
import Derived.Test.YthidbmeaccpjdaaGreatDoorM02
section
namespace Go.Proofs.YthidbmeaccpjdaaGreatDoor
open Go.RowKit
set_option linter.unusedVariables false
def runesF : Nat → List UInt8 → List Int
 | 0, _ => []
 | f + 1, l => if l = [] then [] else ((uN l).1 : Int) :: runesF f (l.drop (uN l).2)
def runesP (l : List UInt8) : List Int := runesF l.length l
theorem runesF_more : ∀ (f g : Nat) (l : List UInt8), l.length ≤ f → l.length ≤ g → runesF f l = runesF g l
 | 0, 0, l, _, _ => rfl
 | 0, g + 1, l, h, _ => by
  have : l = [] := List.eq_nil_of_length_eq_zero (by omega)
  unfold runesF; rw [if_pos this]
 | f + 1, 0, l, _, h => by
  have : l = [] := List.eq_nil_of_length_eq_zero (by omega)
  conv => lhs; unfold runesF
  rw [if_pos this]; rfl
 | f + 1, g + 1, l, hf, hg => by
  unfold runesF
  by_cases e : l = []
  ·rw [if_pos e, if_pos e]
  ·rw [if_neg e, if_neg e]
   have := (uN_pos l e).1
   rw [runesF_more f g (l.drop (uN l).2) (by rw [List.length_drop]; omega) (by rw [List.length_drop]; omega)]
theorem runesP_cons {l : List UInt8} (h : l ≠ []) : runesP l = ((uN l).1 : Int) :: runesP (l.drop (uN l).2) := by
 have h1 := uN_pos l h
 unfold runesP
 cases e : l.length with
 | zero => exact absurd (List.eq_nil_of_length_eq_zero e) h
 | succ n =>
  conv => lhs; unfold runesF
  rw [if_neg h, runesF_more n (l.drop (uN l).2).length _ (by rw [List.length_drop]; omega) (Nat.le_refl _)]
theorem runesP_nil : runesP [] = [] := rfl
def joinR (l : List Int) : List UInt8 := l.flatMap Lib.encodeRune
theorem repairF_eq : ∀ (f : Nat) (l : List UInt8), repairF f l = joinR (runesF f l)
 | 0, _ => rfl
 | f + 1, l => by
  unfold repairF runesF
  split
  ·rfl
  ·rw [repairF_eq f]
   rfl
theorem repairP_eq (l : List UInt8) : repairP l = joinR (runesP l) := repairF_eq _ _
theorem runesF_bd : ∀ (f : Nat) (l : List UInt8), ∀ x ∈ runesF f l, 0 ≤ x ∧ x ≤ 1114111
 | 0, _, x, h => by cases h
 | f + 1, l, x, h => by
  unfold runesF at h
  split at h
  ·cases h
  ·rename_i e
   rcases List.mem_cons.1 h with rfl | h
   ·have := (uN_pos l e).2.2.2; omega
   ·exact runesF_bd f _ x h
theorem runesF_len : ∀ (f : Nat) (l : List UInt8), (runesF f l).length ≤ f
 | 0, _ => by simp [runesF]
 | f + 1, l => by
  unfold runesF
  split
  ·simp
  ·have := runesF_len f (l.drop (uN l).2)
   simp only [List.length_cons]; omega
structure RuRel (w : World) (l r : List UInt8) (acc : List Int) (v : Value) (wr : World) : Prop where
 own : OwnInts wr w.heap.size v acc
 bel : Below w.heap.size w wr
 eq : acc ++ runesP r = runesP l
 len : acc.length + r.length ≤ l.length
theorem OwnInts.below' {w w' : World} {B : Nat} {v : Value} {acc : List Int} (h : OwnInts w B v acc) (hb : Below w.heap.size w w') : OwnInts w' B v acc := h.block fun b e => hb.block b (h.1.lt b e).2
def strOf' : Value → ByteArray
 | .string s => s
 | _ => ⟨#[]⟩
def IntsPost (w : World) (l : List Int) (e : Ending) (w' : World) : Prop := ∃ v, e = .returned v ∧ OwnInts w' w.heap.size v l ∧ Below w.heap.size w w'
set_option maxRecDepth 100000 in
set_option maxHeartbeats 4000000 in
theorem runes_any (l : List UInt8) (w : World) (hl : l.length ≤ 1000000000) (hT : Tabs w) :
  Calls Tryz.prog 63 #[.string (ba l)] w (IntsPost w (runesP l)) := by
 have HT := Lib.hid hT
 clear hT
 go_enter Tryz.func63, Tryz.ntmps63
 go_wp2
 go_loopw [0, 2, 3] (fun s v n wr => ∃ (r : List UInt8) (acc : List Int) (y : Value), n = y ∧ s = .string (ba r) ∧ Hid (RuRel w l r acc v wr)) (fun s _ _ _ => (strOf' s).size)
 case atStart => exact ⟨l, [], _, rfl, rfl, OwnInts.nil_ _ _, Below.refl _ _, rfl, by simp⟩
 case round =>
  obtain ⟨r, acc, y, rfl, rfl, HR⟩ := hrel
  have hsz := HR.out.bel.size
  cases r with
  | nil =>
   have g1 : (ba ([] : List UInt8)).toList.isEmpty = true := by rw [ba_toList]; rfl
   go_wp2
   go_ret
   refine ⟨_, rfl, ?_, HR.out.bel⟩
   have h := HR.out.eq
   rw [runesP_nil, List.append_nil] at h
   rw [← h]
   exact HR.out.own
  | cons c r =>
   have g1 : (ba (c :: r)).toList.isEmpty = false := by rw [ba_toList]; rfl
   have hlen := HR.out.len
   have hcl : (c :: r).length ≤ 1000000000 := by omega
   have HNX := Lib.hid (next_any (c :: r) wr hcl (by simp) (HT.out.below HR.out.bel))
   have HEQ := Lib.hid (runesP_cons (l := c :: r) (by simp))
   have hup := uN_pos (c :: r) (by simp)
   have hbd := runesF_bd 1 (c :: r) ((uN (c :: r)).1 : Int) (by unfold runesF; simp)
   unfold NextPost at HNX
   obtain ⟨ob, hob⟩ : ∃ b, okN (c :: r) = b := ⟨_, rfl⟩
   rw [hob] at HNX
   obtain ⟨⟨x, m⟩, hf⟩ : ∃ v, uN (c :: r) = v := ⟨_, rfl⟩
   rw [hf] at HEQ hup hbd
   simp only [hf] at HNX
   obtain ⟨xi, hxi⟩ : ∃ xi : Int, (x : Int) = xi := ⟨_, rfl⟩
   simp only [hxi] at HNX HEQ hbd
   obtain ⟨d, hd⟩ : ∃ d, (c :: r).drop m = d := ⟨_, rfl⟩
   rw [hd] at HEQ HNX
   have HDL := Lib.hid (show d.length < (c :: r).length by
    have h1 : 1 ≤ m := hup.1
    rw [← hd, List.length_drop]
    have h3 : (c :: r).length = r.length + 1 := rfl
    omega)
   have HBD := Lib.hid hbd
   have HLEN := Lib.hid hlen
   clear hf hd hob hup hbd hxi hlen
   go_wp2_with fail
   refine HNX.out.mono ?_
   rintro e w1 ⟨rfl, hb1⟩
   have HB1 := Lib.hid hb1
   have hsz1 := hb1.size
   clear HNX hb1
   have HOWN := Lib.hid (HR.out.own.below' HB1.out)
   have hB : w.heap.size ≤ w1.heap.size := by omega
   have HYB := Lib.hid (show -9223372036854775808 ≤ xi ∧ xi ≤ 9223372036854775807 by have := HBD.out; omega)
   have HAL := Lib.hid (show acc.length < 1099511627776 by have := HLEN.out; omega)
   go_wp2_with (at_builtin; go_must (refine wpList_push HOWN.out hB HYB.out HAL.out rfl (.tmp 12) (.tmp 14) 46 1 rfl Tryz.underlying46 rfl rfl ?_); intro v2 w2 h1 h2 h3; (have H1 := Lib.hid h1; have H2 := Lib.hid h2; clear h1 h2 h3))
   go_roundw
   case rel =>
    refine ⟨d, acc ++ [xi], _, rfl, rfl, H1.out, (HR.out.bel.trans (HB1.out.mono hsz)).grown H2.out hB fun g e => HOWN.out.base g e, ?_, ?_⟩
    ·rw [List.append_assoc, ← HR.out.eq, HEQ.out]; rfl
    ·have := HDL.out
     have := HLEN.out
     rw [List.length_append]
     show acc.length + 1 + _ ≤ _
     omega
   case measure =>
    show (ba d).size < (ba (c :: r)).size
    rw [ba_size, ba_size]
    exact HDL.out
set_option maxRecDepth 100000 in
theorem enc_eq (n : Int) (h0 : 0 ≤ n) : Utf8.encode n = ba (Lib.encodeRune n) := by
 obtain ⟨r, rfl⟩ : ∃ r : Nat, n = (r : Int) := ⟨n.toNat, by omega⟩
 have key : ∀ l : List UInt8, (Utf8.encode (r : Int)).data.toList = l → Utf8.encode (r : Int) = ba l := fun l h => by
  subst h
  exact (ba_eq _).symm
 apply key
 unfold Lib.encodeRune
 by_cases c1 : r < 128
 ·have v : Utf8.valid (r : Int) = true := by simp [Utf8.valid]; omega
  rw [Lib.encodeRuneZ_one (by omega) (by omega)]
  simp [Utf8.encode, v, c1]
 by_cases c2 : r < 2048
 ·have v : Utf8.valid (r : Int) = true := by simp [Utf8.valid]; omega
  rw [Lib.encodeRuneZ_two (by omega) (by omega)]
  have e1 : (192 + (r : Int) / 64).toNat = 192 + r / 64 := by omega
  have e2 : (128 + (r : Int) % 64).toNat = 128 + r % 64 := by omega
  simp [Utf8.encode, v, c1, c2, e1, e2]
 by_cases hb : (55296 ≤ r ∧ r ≤ 57343) ∨ 1114111 < r
 ·have v : Utf8.valid (r : Int) = false := by simp [Utf8.valid]; omega
  rw [Lib.encodeRuneZ_bad (by omega)]
  simp [Utf8.encode, v, Utf8.runeError]
 have v : Utf8.valid (r : Int) = true := by simp [Utf8.valid]; omega
 by_cases c3 : r < 65536
 ·rw [Lib.encodeRuneZ_three (by omega)]
  have e1 : (224 + (r : Int) / 4096).toNat = 224 + r / 4096 := by omega
  have e2 : (128 + (r : Int) / 64 % 64).toNat = 128 + r / 64 % 64 := by omega
  have e3 : (128 + (r : Int) % 64).toNat = 128 + r % 64 := by omega
  simp [Utf8.encode, v, c1, c2, c3, e1, e2, e3]
 ·rw [Lib.encodeRuneZ_four (by omega) (by omega)]
  have e1 : (240 + (r : Int) / 262144).toNat = 240 + r / 262144 := by omega
  have e2 : (128 + (r : Int) / 4096 % 64).toNat = 128 + r / 4096 % 64 := by omega
  have e3 : (128 + (r : Int) / 64 % 64).toNat = 128 + r / 64 % 64 := by omega
  have e4 : (128 + (r : Int) % 64).toNat = 128 + r % 64 := by omega
  simp [Utf8.encode, v, c1, c2, c3, e1, e2, e3, e4]
theorem enc_len (n : Int) : (Lib.encodeRune n).length ≤ 4 := by
 unfold Lib.encodeRune Lib.encodeRuneZ
 rw [List.length_map]
 repeat' split
 all_goals simp
set_option maxRecDepth 100000 in
set_option maxHeartbeats 4000000 in
theorem rune_any (n : Int) (w : World) (h0 : 0 ≤ n) (h1 : n ≤ 1114111) :
  Calls Tryz.prog 118 #[.int .i64 n] w fun e w' => e = .returned (.string (ba (Lib.encodeRune n))) ∧ w' = w := by
 have g1 : decide (n < 0) = false := decide_eq_false (by omega)
 have g2 : decide (1114111 < n) = false := decide_eq_false (by omega)
 have HE := Lib.hid (enc_eq n h0)
 go_enter Tryz.func118, Tryz.ntmps118
 go_wp2
 go_ret
 exact ⟨by rw [← HE.out]; rfl, rfl⟩
theorem joinR_snoc {l : List Int} {k : Nat} (hk : k < l.length) : joinR (l.take (k + 1)) = joinR (l.take k) ++ Lib.encodeRune (gi l k) := by
 rw [List.take_succ_eq_append_getElem hk]
 unfold joinR
 rw [List.flatMap_append, gi_get hk]
 simp
theorem joinR_len (l : List Int) : (joinR l).length ≤ 4 * l.length := by
 induction l with
 | nil => simp [joinR]
 | cons a r ih =>
  have := enc_len a
  have e : joinR (a :: r) = Lib.encodeRune a ++ joinR r := rfl
  rw [e, List.length_append, List.length_cons]
  omega
set_option maxRecDepth 100000 in
set_option maxHeartbeats 4000000 in
theorem joined_any (ns : List Int) (A : Option Addr) (n c : Nat) (w : World) (hI : Ints w w.heap.size A n ns) (hb : ∀ x ∈ ns, 0 ≤ x ∧ x ≤ 1114111) (hn : n ≤ 1000000000) :
  Calls Tryz.prog 62 #[.slice A n c] w (StrB w (joinR ns)) := by
 have HI := Lib.hid hI
 have HN := Lib.hid hI.len
 have HBD := Lib.hid (show ∀ k, 0 ≤ gi ns k ∧ gi ns k ≤ 1114111 from fun k => by
  unfold gi
  by_cases h : k < ns.length
  ·rw [List.getD_eq_getElem?_getD, List.getElem?_eq_getElem h]
   exact hb _ (List.getElem_mem h)
  ·rw [List.getD_eq_getElem?_getD, List.getElem?_eq_none (by omega)]
   exact ⟨by simp, by simp⟩)
 have HB0 := Lib.hid (bld_new w)
 clear hI hb
 go_enter Tryz.func62, Tryz.ntmps62
 go_wp2
 go_loopw [8] (fun i wr => ∃ k : Nat, k ≤ n ∧ i = .int .i64 (k : Int) ∧ Hid (BRel w w.heap.size (joinR (ns.take k)) wr)) (fun i _ => n - (intOf i).toNat)
 case atStart => exact ⟨0, Nat.zero_le _, rfl, Lib.hid ⟨HB0.out, (Below.refl _ _).alloc (Nat.le_refl _) _⟩⟩
 case round =>
  obtain ⟨k, hk, rfl, HR⟩ := hrel
  have hsz := HR.out.bel.size
  by_cases hlt : k < n
  ·have hk2 : (k : Int) < n := by omega
   obtain ⟨ad, rfl, hbl, c0⟩ := (HI.out.below HR.out.bel).at_ hlt
   have hkl : k < ns.length := by rw [HN.out]; exact hlt
   have HP := Lib.hid (joinR_snoc hkl)
   have hal := joinR_len (ns.take k)
   have hbdk := HBD.out k
   rw [List.length_take] at hal
   have hal2 : (joinR (ns.take k)).length ≤ 4000000000 := by omega
   have HL2 := Lib.hid hal2
   obtain ⟨x, hx⟩ : ∃ x, gi ns k = x := ⟨_, rfl⟩
   rw [hx] at c0 HP hbdk
   have HRU := Lib.hid (rune_any x wr hbdk.1 hbdk.2)
   have hel := enc_len x
   obtain ⟨t, ht⟩ : ∃ t, Lib.encodeRune x = t := ⟨_, rfl⟩
   rw [ht] at HRU HP hel
   have HEL := Lib.hid hel
   clear hx ht hal hal2 hbdk hel hkl
   have HBD2 := Lib.hid HR.out.bld
   have HBE := Lib.hid HR.out.bel
   have HLL := Lib.hid (show (joinR (ns.take k)).length + t.length ≤ 140737488355328 by have := HL2.out; have := HEL.out; omega)
   clear HR
   go_wp2_with fail
   refine HRU.out.mono ?_
   rintro e w2 ⟨rfl, hw2⟩
   have hw3 := hw2.symm
   subst hw3
   clear hw2
   go_wp2_with fail
   refine (write_string _ _ _ t wr HBD2.out HLL.out hsz).mono ?_
   rintro e w2 ⟨rfl, hW⟩
   have HW := Lib.hid hW
   clear hW
   go_wp2
   go_roundw
   case rel =>
    refine ⟨k + 1, by omega, by go_num, Lib.hid ⟨?_, HBE.out.trans HW.out.bel⟩⟩
    rw [HP.out]
    exact HW.out.bld
   case measure => simp [intOf] <;> omega
  ·obtain rfl : k = n := by omega
   go_wp2_with fail
   refine (bld_string _ _ _ wr HR.out.bld hsz).mono ?_
   rintro e w2 ⟨rfl, hW⟩
   have HW := Lib.hid hW
   clear hW
   go_wp2
   go_ret
   exact str_fin (by rw [List.take_of_length_le (by rw [HN.out]; exact Nat.le_refl _)]) (HR.out.bel.trans HW.out.bel)
set_option maxRecDepth 100000 in
set_option maxHeartbeats 4000000 in
theorem repair_any (l : List UInt8) (w : World) (hl : l.length ≤ 1000000000) (hT : Tabs w) :
  Calls Tryz.prog 26 #[.string (ba l)] w (StrB w (repairP l)) := by
 have HRU := Lib.hid (runes_any l w hl hT)
 have HEQ := Lib.hid (repairP_eq l)
 have HRL := Lib.hid (runesF_len l.length l)
 have HRB := Lib.hid (runesF_bd l.length l)
 clear hT
 go_enter Tryz.func26, Tryz.ntmps26
 go_wp2_with fail
 refine HRU.out.mono ?_
 rintro e w1 ⟨v, rfl, hown, hb⟩
 obtain ⟨A, c, rfl, h1, h2, hI⟩ := hown.ints
 have HI := Lib.hid hI
 have HB := Lib.hid hb
 have HLN := Lib.hid (show (runesP l).length ≤ 1000000000 by have : (runesP l).length ≤ l.length := HRL.out; omega)
 clear hown h1 h2 hI hb
 go_wp2_with fail
 refine (joined_any _ _ _ _ w1 HI.out HRB.out HLN.out).mono ?_
 rintro e w2 ⟨rfl, hb2⟩
 have HB2 := Lib.hid hb2
 clear hb2
 go_wp2
 go_ret
 exact str_fin (by rw [HEQ.out]) (HB.out.trans (HB2.out.mono HB.out.size))
end Go.Proofs.YthidbmeaccpjdaaGreatDoor
end
section
namespace Go.Proofs.YthidbmeaccpjdaaGreatDoor
open Go.RowKit
set_option linter.unusedVariables false
theorem ascii_any (c : UInt8) (w : World) : Calls Tryz.prog 161 #[.int .u8 (c.toNat : Int)] w fun e w' => e = .returned (.int .i64 (signA c : Nat)) ∧ w' = w := by
 have HS := Lib.hid (show (signA c : Int) = if (c.toNat : Int) < 128 then (c.toNat : Int) else 65533 by
  unfold signA
  by_cases h : c < 128
  ·have h2 : (c.toNat : Int) < 128 := by have := UInt8.lt_iff_toNat_lt.1 h; have h3 : (128 : UInt8).toNat = 128 := rfl; omega
   rw [if_pos h, if_pos h2]
  ·have h2 : ¬ (c.toNat : Int) < 128 := fun h3 => h (UInt8.lt_iff_toNat_lt.2 (by have h4 : (128 : UInt8).toNat = 128 := rfl; omega))
   rw [if_neg h, if_neg h2]
   rfl)
 obtain ⟨x, hx⟩ : ∃ x : Int, (c.toNat : Int) = x := ⟨_, rfl⟩
 have hx0 : 0 ≤ x := by omega
 have hx1 : x ≤ 255 := by have := c.toNat_lt; omega
 rw [hx] at HS ⊢
 clear hx
 by_cases e1 : 128 ≤ x
 ·have g1 : decide (128 ≤ x) = true := decide_eq_true e1
  have HV := Lib.hid (show (signA c : Int) = 65533 by rw [HS.out, if_neg (by omega)])
  go_enter Tryz.func161, Tryz.ntmps161
  go_wp2
  go_ret
  exact ⟨by rw [HV.out]; rfl, rfl⟩
 ·have g1 : decide (128 ≤ x) = false := decide_eq_false e1
  have HV := Lib.hid (show (signA c : Int) = x by rw [HS.out, if_pos (by omega)])
  go_enter Tryz.func161, Tryz.ntmps161
  go_wp2
  go_ret
  exact ⟨by rw [HV.out]; rfl, rfl⟩
theorem latin_any (c : UInt8) (w : World) : Calls Tryz.prog 162 #[.int .u8 (c.toNat : Int)] w fun e w' => e = .returned (.int .i64 (signL c : Nat)) ∧ w' = w := by
 have HS := Lib.hid (show (signL c : Int) = (c.toNat : Int) from rfl)
 obtain ⟨x, hx⟩ : ∃ x : Int, (c.toNat : Int) = x := ⟨_, rfl⟩
 have hx0 : 0 ≤ x := by omega
 have hx1 : x ≤ 255 := by have := c.toNat_lt; omega
 rw [hx] at HS ⊢
 clear hx
 go_enter Tryz.func162, Tryz.ntmps162
 go_wp2
 go_ret
 exact ⟨by rw [HS.out]; rfl, rfl⟩
theorem signW_int (c : UInt8) : (signW c : Int) = if (c.toNat : Int) < 128 ∨ 160 ≤ (c.toNat : Int) then (c.toNat : Int) else (windowsT.getD (c.toNat - 128) 0 : Nat) := by
 unfold signW
 have e1 : (c < 128) ↔ (c.toNat : Int) < 128 := by
  rw [UInt8.lt_iff_toNat_lt]
  have h4 : (128 : UInt8).toNat = 128 := rfl
  omega
 have e2 : (160 ≤ c) ↔ 160 ≤ (c.toNat : Int) := by
  rw [UInt8.le_iff_toNat_le]
  have h4 : (160 : UInt8).toNat = 160 := rfl
  omega
 by_cases h : c < 128 ∨ 160 ≤ c
 ·rw [if_pos h, if_pos (h.imp e1.1 e2.1)]
 ·rw [if_neg h, if_neg (fun h2 => h (h2.imp e1.2 e2.2))]
def windowsA : Array Value := #[.int .i64 8364, .int .i64 129, .int .i64 8218, .int .i64 402, .int .i64 8222, .int .i64 8230, .int .i64 8224, .int .i64 8225, .int .i64 710, .int .i64 8240, .int .i64 352, .int .i64 8249, .int .i64 338, .int .i64 141, .int .i64 381, .int .i64 143, .int .i64 144, .int .i64 8216, .int .i64 8217, .int .i64 8220, .int .i64 8221, .int .i64 8226, .int .i64 8211, .int .i64 8212, .int .i64 732, .int .i64 8482, .int .i64 353, .int .i64 8250, .int .i64 339, .int .i64 157, .int .i64 382, .int .i64 376]
theorem wat_0 (W : World) : (Instr.index 174 (.agg windowsA) (.int .u8 0)).run Tryz.prog W = .ok (.int .i64 8364) W := by kernel_rfl
theorem wat_1 (W : World) : (Instr.index 174 (.agg windowsA) (.int .u8 1)).run Tryz.prog W = .ok (.int .i64 129) W := by kernel_rfl
theorem wat_2 (W : World) : (Instr.index 174 (.agg windowsA) (.int .u8 2)).run Tryz.prog W = .ok (.int .i64 8218) W := by kernel_rfl
theorem wat_3 (W : World) : (Instr.index 174 (.agg windowsA) (.int .u8 3)).run Tryz.prog W = .ok (.int .i64 402) W := by kernel_rfl
theorem wat_4 (W : World) : (Instr.index 174 (.agg windowsA) (.int .u8 4)).run Tryz.prog W = .ok (.int .i64 8222) W := by kernel_rfl
theorem wat_5 (W : World) : (Instr.index 174 (.agg windowsA) (.int .u8 5)).run Tryz.prog W = .ok (.int .i64 8230) W := by kernel_rfl
theorem wat_6 (W : World) : (Instr.index 174 (.agg windowsA) (.int .u8 6)).run Tryz.prog W = .ok (.int .i64 8224) W := by kernel_rfl
theorem wat_7 (W : World) : (Instr.index 174 (.agg windowsA) (.int .u8 7)).run Tryz.prog W = .ok (.int .i64 8225) W := by kernel_rfl
theorem wat_8 (W : World) : (Instr.index 174 (.agg windowsA) (.int .u8 8)).run Tryz.prog W = .ok (.int .i64 710) W := by kernel_rfl
theorem wat_9 (W : World) : (Instr.index 174 (.agg windowsA) (.int .u8 9)).run Tryz.prog W = .ok (.int .i64 8240) W := by kernel_rfl
theorem wat_10 (W : World) : (Instr.index 174 (.agg windowsA) (.int .u8 10)).run Tryz.prog W = .ok (.int .i64 352) W := by kernel_rfl
theorem wat_11 (W : World) : (Instr.index 174 (.agg windowsA) (.int .u8 11)).run Tryz.prog W = .ok (.int .i64 8249) W := by kernel_rfl
theorem wat_12 (W : World) : (Instr.index 174 (.agg windowsA) (.int .u8 12)).run Tryz.prog W = .ok (.int .i64 338) W := by kernel_rfl
theorem wat_13 (W : World) : (Instr.index 174 (.agg windowsA) (.int .u8 13)).run Tryz.prog W = .ok (.int .i64 141) W := by kernel_rfl
theorem wat_14 (W : World) : (Instr.index 174 (.agg windowsA) (.int .u8 14)).run Tryz.prog W = .ok (.int .i64 381) W := by kernel_rfl
theorem wat_15 (W : World) : (Instr.index 174 (.agg windowsA) (.int .u8 15)).run Tryz.prog W = .ok (.int .i64 143) W := by kernel_rfl
theorem wat_16 (W : World) : (Instr.index 174 (.agg windowsA) (.int .u8 16)).run Tryz.prog W = .ok (.int .i64 144) W := by kernel_rfl
theorem wat_17 (W : World) : (Instr.index 174 (.agg windowsA) (.int .u8 17)).run Tryz.prog W = .ok (.int .i64 8216) W := by kernel_rfl
theorem wat_18 (W : World) : (Instr.index 174 (.agg windowsA) (.int .u8 18)).run Tryz.prog W = .ok (.int .i64 8217) W := by kernel_rfl
theorem wat_19 (W : World) : (Instr.index 174 (.agg windowsA) (.int .u8 19)).run Tryz.prog W = .ok (.int .i64 8220) W := by kernel_rfl
theorem wat_20 (W : World) : (Instr.index 174 (.agg windowsA) (.int .u8 20)).run Tryz.prog W = .ok (.int .i64 8221) W := by kernel_rfl
theorem wat_21 (W : World) : (Instr.index 174 (.agg windowsA) (.int .u8 21)).run Tryz.prog W = .ok (.int .i64 8226) W := by kernel_rfl
theorem wat_22 (W : World) : (Instr.index 174 (.agg windowsA) (.int .u8 22)).run Tryz.prog W = .ok (.int .i64 8211) W := by kernel_rfl
theorem wat_23 (W : World) : (Instr.index 174 (.agg windowsA) (.int .u8 23)).run Tryz.prog W = .ok (.int .i64 8212) W := by kernel_rfl
theorem wat_24 (W : World) : (Instr.index 174 (.agg windowsA) (.int .u8 24)).run Tryz.prog W = .ok (.int .i64 732) W := by kernel_rfl
theorem wat_25 (W : World) : (Instr.index 174 (.agg windowsA) (.int .u8 25)).run Tryz.prog W = .ok (.int .i64 8482) W := by kernel_rfl
theorem wat_26 (W : World) : (Instr.index 174 (.agg windowsA) (.int .u8 26)).run Tryz.prog W = .ok (.int .i64 353) W := by kernel_rfl
theorem wat_27 (W : World) : (Instr.index 174 (.agg windowsA) (.int .u8 27)).run Tryz.prog W = .ok (.int .i64 8250) W := by kernel_rfl
theorem wat_28 (W : World) : (Instr.index 174 (.agg windowsA) (.int .u8 28)).run Tryz.prog W = .ok (.int .i64 339) W := by kernel_rfl
theorem wat_29 (W : World) : (Instr.index 174 (.agg windowsA) (.int .u8 29)).run Tryz.prog W = .ok (.int .i64 157) W := by kernel_rfl
theorem wat_30 (W : World) : (Instr.index 174 (.agg windowsA) (.int .u8 30)).run Tryz.prog W = .ok (.int .i64 382) W := by kernel_rfl
theorem wat_31 (W : World) : (Instr.index 174 (.agg windowsA) (.int .u8 31)).run Tryz.prog W = .ok (.int .i64 376) W := by kernel_rfl
theorem windows_at (j : Nat) (hj : j < 32) (W : World) : (Instr.index 174 (.agg windowsA) (.int .u8 (j : Int))).run Tryz.prog W = .ok (.int .i64 (windowsT.getD j 0 : Nat)) W := by
 match j, hj with
 | 0, _ => exact wat_0 W
 | 1, _ => exact wat_1 W
 | 2, _ => exact wat_2 W
 | 3, _ => exact wat_3 W
 | 4, _ => exact wat_4 W
 | 5, _ => exact wat_5 W
 | 6, _ => exact wat_6 W
 | 7, _ => exact wat_7 W
 | 8, _ => exact wat_8 W
 | 9, _ => exact wat_9 W
 | 10, _ => exact wat_10 W
 | 11, _ => exact wat_11 W
 | 12, _ => exact wat_12 W
 | 13, _ => exact wat_13 W
 | 14, _ => exact wat_14 W
 | 15, _ => exact wat_15 W
 | 16, _ => exact wat_16 W
 | 17, _ => exact wat_17 W
 | 18, _ => exact wat_18 W
 | 19, _ => exact wat_19 W
 | 20, _ => exact wat_20 W
 | 21, _ => exact wat_21 W
 | 22, _ => exact wat_22 W
 | 23, _ => exact wat_23 W
 | 24, _ => exact wat_24 W
 | 25, _ => exact wat_25 W
 | 26, _ => exact wat_26 W
 | 27, _ => exact wat_27 W
 | 28, _ => exact wat_28 W
 | 29, _ => exact wat_29 W
 | 30, _ => exact wat_30 W
 | 31, _ => exact wat_31 W
 | n + 32, h => exact absurd h (by omega)
set_option maxRecDepth 100000 in
set_option maxHeartbeats 4000000 in
theorem windows_any (c : UInt8) (w : World) : Calls Tryz.prog 94 #[.int .u8 (c.toNat : Int)] w fun e w' => e = .returned (.int .i64 (signW c : Nat)) ∧ w' = w := by
 have HS := Lib.hid (signW_int c)
 obtain ⟨x, hx⟩ : ∃ x : Int, (c.toNat : Int) = x := ⟨_, rfl⟩
 have hx0 : 0 ≤ x := by omega
 have hx1 : x ≤ 255 := by have := c.toNat_lt; omega
 have HX := Lib.hid hx
 rw [hx] at HS ⊢
 clear hx
 by_cases e1 : x < 128
 ·have g1 : decide (x < 128) = true := decide_eq_true e1
  have HV := Lib.hid (show (signW c : Int) = x by rw [HS.out, if_pos (.inl e1)])
  clear e1
  go_enter Tryz.func94, Tryz.ntmps94
  go_wp2
  go_ret
  exact ⟨by rw [HV.out]; rfl, rfl⟩
 have g1 : decide (x < 128) = false := decide_eq_false e1
 by_cases e2 : 160 ≤ x
 ·have g2 : decide (160 ≤ x) = true := decide_eq_true e2
  have HV := Lib.hid (show (signW c : Int) = x by rw [HS.out, if_pos (.inr e2)])
  go_enter Tryz.func94, Tryz.ntmps94
  go_wp2
  go_ret
  exact ⟨by rw [HV.out]; rfl, rfl⟩
 have g2 : decide (160 ≤ x) = false := decide_eq_false e2
 have hlo : 128 ≤ x := by omega
 have hhi : x ≤ 159 := by omega
 have hidx : ∀ W, (Instr.index 174 (.agg #[.int .i64 8364, .int .i64 129, .int .i64 8218, .int .i64 402, .int .i64 8222, .int .i64 8230, .int .i64 8224, .int .i64 8225, .int .i64 710, .int .i64 8240, .int .i64 352, .int .i64 8249, .int .i64 338, .int .i64 141, .int .i64 381, .int .i64 143, .int .i64 144, .int .i64 8216, .int .i64 8217, .int .i64 8220, .int .i64 8221, .int .i64 8226, .int .i64 8211, .int .i64 8212, .int .i64 732, .int .i64 8482, .int .i64 353, .int .i64 8250, .int .i64 339, .int .i64 157, .int .i64 382, .int .i64 376]) (.int .u8 (x - 128))).run Tryz.prog W = .ok (.int .i64 (windowsT.getD (c.toNat - 128) 0 : Nat)) W := fun W => by
  have h := windows_at (c.toNat - 128) (by have := HX.out; omega) W
  have e : ((c.toNat - 128 : Nat) : Int) = x - 128 := by have := HX.out; omega
  rw [e] at h
  exact h
 have HV := Lib.hid (show (signW c : Int) = (windowsT.getD (c.toNat - 128) 0 : Nat) by rw [HS.out, if_neg (by omega)])
 obtain ⟨v, hv⟩ : ∃ v, windowsT.getD (c.toNat - 128) 0 = v := ⟨_, rfl⟩
 rw [hv] at HV
 simp only [hv] at hidx
 clear hv
 go_enter Tryz.func94, Tryz.ntmps94
 go_wp2
 go_ret
 exact ⟨by rw [HV.out]; rfl, rfl⟩
end Go.Proofs.YthidbmeaccpjdaaGreatDoor
end
section
namespace Go.Proofs.YthidbmeaccpjdaaGreatDoor
open Go.RowKit
set_option linter.unusedVariables false
theorem wp_region_tail {P : Program} {id : Nat} {Q : Exit → Act → World → Prop} {a : Act} {w : World} {l : List Oper} (n : Nat) (hm : P.follows .mixedOrders = true) (hB : Region.lexTailB .any l.toArray n = true)
  (h : wpStill P l.toArray w.drew (fun a' => wpList P l.toArray Q (l.drop n) a' w.drew) (l.take n) a) : (Code.region id l.toArray true).wp P Q a w := wp_region_still_tail n hm hB h
end Go.Proofs.YthidbmeaccpjdaaGreatDoor
end
section
namespace Go.Proofs.YthidbmeaccpjdaaGreatDoor
open Go.RowKit
set_option linter.unusedVariables false
theorem make_ints {m : Nat} (hm : m < 1099511627776) (W : World) : (Instr.makeSlice 46 (.int .i64 (m : Int)) (.int .i64 (m : Int))).run Tryz.prog W = .ok (.slice (some ⟨W.heap.size, 0, none⟩) m m) (W.alloc (.cells (madeCells #[.int .i64 0] m) 3)) := by
 obtain ⟨i0, hi, hz0, hz1, hz2⟩ := info_parts int_info
 have := run_make (P := Tryz.prog) W 46 3 i0 (.int .i64 0) Tryz.underlying46 hi hz0 .i64 .i64 (m : Int) (m : Int) (by omega) (by omega) (by rw [hz2]; omega) (by omega)
 rw [this, hz1, Nat.mul_one]
 rfl
def IntRow (w : World) (b : Nat) (l : List Int) : Prop := ∃ C T, w.heap[b]? = some (.cells C T (0, 0)) ∧ ∀ j (hj : j < l.length), C[j]? = some (.int .i64 l[j])
theorem IntRow.cell {w : World} {b : Nat} {l : List Int} (h : IntRow w b l) {j : Nat} (hj : j < l.length) : w.cell? ⟨b, j, none⟩ = some (.int .i64 l[j]) := by
 obtain ⟨C, T, h1, h2⟩ := h
 rw [← h2 j hj]
 unfold World.cell?
 rw [h1]
 simp
theorem IntRow.free {w : World} {b : Nat} {l : List Int} (h : IntRow w b l) (j : Nat) : w.frozen? ⟨b, j, none⟩ = false := by
 obtain ⟨C, T, h1, h2⟩ := h
 unfold World.frozen?
 rw [h1]
 simp
theorem IntRow.lt {w : World} {b : Nat} {l : List Int} (h : IntRow w b l) : b < w.heap.size := by
 obtain ⟨C, T, h1, _⟩ := h
 exact heap_lt h1
theorem IntRow.set {w : World} {b : Nat} {l : List Int} (h : IntRow w b l) {k : Nat} (hk : k < l.length) (v : Int) : IntRow (w.setCell ⟨b, k, none⟩ (.int .i64 v)) b (l.set k v) := by
 obtain ⟨C, T, h1, h2⟩ := h
 refine ⟨C.setIfInBounds k (.int .i64 v), T, heap_setCell_same w b k C T _ h1, fun j hj => ?_⟩
 rw [List.length_set] at hj
 rw [Array.getElem?_setIfInBounds, List.getElem_set]
 by_cases e : k = j
 ·subst e
  have := h2 k hk
  have hlt : k < C.size := (Array.getElem?_eq_some_iff.1 this).1
  simp [hlt]
 ·rw [if_neg e, if_neg e]
  exact h2 j hj
theorem IntRow.made (W : World) (m : Nat) (T : TypeId) : IntRow (W.alloc (.cells (madeCells #[.int .i64 0] m) T)) W.heap.size (List.replicate m 0) := by
 refine ⟨madeCells #[.int .i64 0] m, T, ?_, fun j hj => ?_⟩
 ·show (W.heap.push _)[W.heap.size]? = _
  simp
 ·rw [List.length_replicate] at hj
  rw [List.getElem_replicate]
  simp [madeCells, hj, Nat.mod_one]
theorem IntRow.ints {w : World} {b : Nat} {l : List Int} (h : IntRow w b l) (hb : I64s l) : Ints w w.heap.size (some ⟨b, 0, none⟩) l.length l := by
 refine ⟨rfl, hb, .inr ⟨_, rfl, h.lt, fun j u hu => ?_⟩⟩
 have hj : j < l.length := by have := (List.getElem?_eq_some_iff.1 hu).1; simpa [iv] using this
 have e : Addr.add ⟨b, 0, none⟩ j = ⟨b, j, none⟩ := by
  unfold Addr.add
  split
  ·rename_i h0; rw [h0]
  ·rw [Nat.zero_add]
 rw [e, h.cell hj]
 simp [iv, hj] at hu
 rw [← hu]
structure ByRel (w : World) (f : UInt8 → Nat) (l : List UInt8) (n k : Nat) (wr : World) : Prop where
 row : IntRow wr w.heap.size ((l.take k).map (fun c => (f c : Int)) ++ List.replicate (n - k) 0)
 bel : Below w.heap.size w wr
theorem by_set {f : UInt8 → Nat} {l : List UInt8} {n k : Nat} (hn : l.length = n) (hk : k < n) {c : UInt8} (hc : l[k]'(by omega) = c) :
  ((l.take k).map (fun c => (f c : Int)) ++ List.replicate (n - k) 0).set k (f c : Int) = (l.take (k + 1)).map (fun c => (f c : Int)) ++ List.replicate (n - (k + 1)) 0 := by
 have hl : ((l.take k).map (fun c => (f c : Int))).length = k := by rw [List.length_map, List.length_take]; omega
 rw [List.set_append_right _ _ (by rw [hl]; exact Nat.le_refl _), hl, show k - k = 0 by omega, show n - k = (n - (k + 1)) + 1 by omega, List.replicate_succ, List.set_cons_zero, List.take_succ_eq_append_getElem (by omega : k < l.length), List.map_append, List.append_assoc, hc]
 rfl
theorem bytesBy_eq (f : UInt8 → Nat) (l : List UInt8) : bytesBy f l = joinR (l.map fun c => (f c : Int)) := by
 unfold bytesBy joinR
 rw [List.flatMap_map]
theorem signA_bd (c : UInt8) : signA c ≤ 1114111 := by
 unfold signA
 split
 ·have := c.toNat_lt; omega
 ·decide
theorem signL_bd (c : UInt8) : signL c ≤ 1114111 := by unfold signL; have := c.toNat_lt; omega
theorem signW_bd (c : UInt8) : signW c ≤ 1114111 := u8_all (fun c => signW c ≤ 1114111) (by decide +kernel) c
set_option maxRecDepth 100000 in
set_option maxHeartbeats 4000000 in
theorem by_ascii (l : List UInt8) (b : Nat) (w : World) (hl : l.length ≤ 1000000000) (hc : w.cell? ⟨b, 0, none⟩ = some (.func (.func 161) #[] #[])) (hb : b < w.heap.size) :
  Calls Tryz.prog 163 #[.string (ba l), .pointer (some ⟨b, 0, none⟩)] w (StrB w (bytesBy signA l)) := by
 have HBY := Lib.hid (bytesBy_eq signA l)
 have HCC := Lib.hid (show ∀ W, Below w.heap.size w W → W.cell? ⟨b, 0, none⟩ = some (.func (.func 161) #[] #[]) from fun W h => (h.cell (p := ⟨b, 0, none⟩) hb).trans hc)
 clear hc
 obtain ⟨n, hn⟩ : ∃ n, l.length = n := ⟨_, rfl⟩
 have HL := Lib.hid hn
 obtain ⟨s, hs⟩ : ∃ s, ba l = s := ⟨_, rfl⟩
 have HS := Lib.hid hs
 have HZ := Lib.hid (show s.size = n by rw [← hs, ba_size, hn])
 have hsz : (s.size : Int) = n := by rw [HZ.out]
 rw [hs]
 rw [hn] at hl
 clear hs hn
 have hmk := make_ints (m := n) (by omega)
 have HROW := Lib.hid (IntRow.made w n 3)
 go_enter Tryz.func163, Tryz.ntmps163
 go_wp2
 clear hmk
 go_loopw [11] (fun i wr => ∃ k : Nat, k ≤ n ∧ i = .int .i64 (k : Int) ∧ Hid (ByRel w signA l n k wr)) (fun i _ => n - (intOf i).toNat)
 case atStart => exact ⟨0, Nat.zero_le _, rfl, Lib.hid ⟨HROW.out, (Below.refl _ _).alloc (Nat.le_refl _) _⟩⟩
 case round =>
  obtain ⟨k, hk, rfl, HR⟩ := hrel
  have hsz2 := HR.out.bel.size
  by_cases hlt : k < n
  ·have hk2 : (k : Int) < (n : Int) := by omega
   have hk0 : (0 : Int) ≤ (k : Int) := by omega
   have hks : k < s.size := by rw [HZ.out]; omega
   have hkl : k < l.length := by rw [HL.out]; omega
   have hget : s[k] = l[k] := by
    have h := HS.out
    subst h
    rfl
   have hkr : k < ((l.take k).map (fun c => (signA c : Int)) ++ List.replicate (n - k) 0).length := by rw [List.length_append, List.length_map, List.length_take, List.length_replicate]; omega
   have hcell := HR.out.row.cell hkr
   have hfree := HR.out.row.free k
   have HSET := Lib.hid (fun c => HR.out.row.set hkr ((signA c : Nat) : Int))
   have hcf := HCC.out wr HR.out.bel
   have HBY2 := Lib.hid (fun c hc => by_set (f := signA) (c := c) HL.out hlt hc)
   obtain ⟨c, hc⟩ : ∃ c, l[k] = c := ⟨_, rfl⟩
   have HBY3 := Lib.hid (HBY2.out c hc)
   rw [hc] at hget
   obtain ⟨x, hx⟩ : ∃ x : Int, (c.toNat : Int) = x := ⟨_, rfl⟩
   have hgi : ((s[k]).toNat : Int) = x := by rw [hget]; exact hx
   have hsg := ascii_any c
   rw [hx] at hsg
   obtain ⟨v, hv⟩ : ∃ v : Int, ((signA c : Nat) : Int) = v := ⟨_, rfl⟩
   have HV := Lib.hid hv
   rw [hv] at hsg
   have HsignA := Lib.hid hsg
   clear hc hkl hget hx hv hsg HBY2
   refine ?_
   go_wp2
   refine wp_region_tail 8 (by kernel_rfl) (by kernel_rfl) ?_
   simp only [List.take_succ_cons, List.take_zero, List.drop_succ_cons, List.drop_zero]
   repeat still_step
   still_call (HsignA.out _)
   repeat still_step
   try refine wpStill_nil ?_
   go_wp2
   go_roundw
   case rel =>
    refine ⟨k + 1, by omega, by go_num, Lib.hid ⟨?_, (HR.out.bel.drew).setCell (Nat.le_refl _) _⟩⟩
    rw [← HBY3.out, ← HV.out]
    exact HSET.out c
   case measure => simp [intOf] <;> omega
  ·obtain rfl : k = n := by omega
   have hrow : IntRow wr w.heap.size (l.map (fun c => (signA c : Int))) := by
    have := HR.out.row
    rw [List.take_of_length_le (by rw [HL.out]; exact Nat.le_refl _), show k - k = 0 by omega] at this
    simpa using this
   have hbds : ∀ x ∈ l.map (fun c => (signA c : Int)), 0 ≤ x ∧ x ≤ 1114111 := fun x hx => by
    obtain ⟨c, _, rfl⟩ := List.mem_map.1 hx
    have := signA_bd c
    omega
   have hin := hrow.ints (fun x hx => by have := hbds x hx; omega)
   rw [List.length_map, HL.out] at hin
   have HIN := Lib.hid hin
   have HBDS := Lib.hid hbds
   have HBE := Lib.hid HR.out.bel
   clear HR hrow hin hbds
   go_wp2_with fail
   refine (joined_any _ _ _ _ wr HIN.out HBDS.out hl).mono ?_
   rintro e w2 ⟨rfl, hb2⟩
   have HB2 := Lib.hid hb2
   clear hb2
   go_wp2
   go_ret
   exact str_fin (by rw [HBY.out]) (HBE.out.trans (HB2.out.mono hsz2))
set_option maxRecDepth 100000 in
set_option maxHeartbeats 4000000 in
theorem by_latin (l : List UInt8) (b : Nat) (w : World) (hl : l.length ≤ 1000000000) (hc : w.cell? ⟨b, 0, none⟩ = some (.func (.func 162) #[] #[])) (hb : b < w.heap.size) :
  Calls Tryz.prog 163 #[.string (ba l), .pointer (some ⟨b, 0, none⟩)] w (StrB w (bytesBy signL l)) := by
 have HBY := Lib.hid (bytesBy_eq signL l)
 have HCC := Lib.hid (show ∀ W, Below w.heap.size w W → W.cell? ⟨b, 0, none⟩ = some (.func (.func 162) #[] #[]) from fun W h => (h.cell (p := ⟨b, 0, none⟩) hb).trans hc)
 clear hc
 obtain ⟨n, hn⟩ : ∃ n, l.length = n := ⟨_, rfl⟩
 have HL := Lib.hid hn
 obtain ⟨s, hs⟩ : ∃ s, ba l = s := ⟨_, rfl⟩
 have HS := Lib.hid hs
 have HZ := Lib.hid (show s.size = n by rw [← hs, ba_size, hn])
 have hsz : (s.size : Int) = n := by rw [HZ.out]
 rw [hs]
 rw [hn] at hl
 clear hs hn
 have hmk := make_ints (m := n) (by omega)
 have HROW := Lib.hid (IntRow.made w n 3)
 go_enter Tryz.func163, Tryz.ntmps163
 go_wp2
 clear hmk
 go_loopw [11] (fun i wr => ∃ k : Nat, k ≤ n ∧ i = .int .i64 (k : Int) ∧ Hid (ByRel w signL l n k wr)) (fun i _ => n - (intOf i).toNat)
 case atStart => exact ⟨0, Nat.zero_le _, rfl, Lib.hid ⟨HROW.out, (Below.refl _ _).alloc (Nat.le_refl _) _⟩⟩
 case round =>
  obtain ⟨k, hk, rfl, HR⟩ := hrel
  have hsz2 := HR.out.bel.size
  by_cases hlt : k < n
  ·have hk2 : (k : Int) < (n : Int) := by omega
   have hk0 : (0 : Int) ≤ (k : Int) := by omega
   have hks : k < s.size := by rw [HZ.out]; omega
   have hkl : k < l.length := by rw [HL.out]; omega
   have hget : s[k] = l[k] := by
    have h := HS.out
    subst h
    rfl
   have hkr : k < ((l.take k).map (fun c => (signL c : Int)) ++ List.replicate (n - k) 0).length := by rw [List.length_append, List.length_map, List.length_take, List.length_replicate]; omega
   have hcell := HR.out.row.cell hkr
   have hfree := HR.out.row.free k
   have HSET := Lib.hid (fun c => HR.out.row.set hkr ((signL c : Nat) : Int))
   have hcf := HCC.out wr HR.out.bel
   have HBY2 := Lib.hid (fun c hc => by_set (f := signL) (c := c) HL.out hlt hc)
   obtain ⟨c, hc⟩ : ∃ c, l[k] = c := ⟨_, rfl⟩
   have HBY3 := Lib.hid (HBY2.out c hc)
   rw [hc] at hget
   obtain ⟨x, hx⟩ : ∃ x : Int, (c.toNat : Int) = x := ⟨_, rfl⟩
   have hgi : ((s[k]).toNat : Int) = x := by rw [hget]; exact hx
   have hsg := latin_any c
   rw [hx] at hsg
   obtain ⟨v, hv⟩ : ∃ v : Int, ((signL c : Nat) : Int) = v := ⟨_, rfl⟩
   have HV := Lib.hid hv
   rw [hv] at hsg
   have HsignL := Lib.hid hsg
   clear hc hkl hget hx hv hsg HBY2
   refine ?_
   go_wp2
   refine wp_region_tail 8 (by kernel_rfl) (by kernel_rfl) ?_
   simp only [List.take_succ_cons, List.take_zero, List.drop_succ_cons, List.drop_zero]
   repeat still_step
   still_call (HsignL.out _)
   repeat still_step
   try refine wpStill_nil ?_
   go_wp2
   go_roundw
   case rel =>
    refine ⟨k + 1, by omega, by go_num, Lib.hid ⟨?_, (HR.out.bel.drew).setCell (Nat.le_refl _) _⟩⟩
    rw [← HBY3.out, ← HV.out]
    exact HSET.out c
   case measure => simp [intOf] <;> omega
  ·obtain rfl : k = n := by omega
   have hrow : IntRow wr w.heap.size (l.map (fun c => (signL c : Int))) := by
    have := HR.out.row
    rw [List.take_of_length_le (by rw [HL.out]; exact Nat.le_refl _), show k - k = 0 by omega] at this
    simpa using this
   have hbds : ∀ x ∈ l.map (fun c => (signL c : Int)), 0 ≤ x ∧ x ≤ 1114111 := fun x hx => by
    obtain ⟨c, _, rfl⟩ := List.mem_map.1 hx
    have := signL_bd c
    omega
   have hin := hrow.ints (fun x hx => by have := hbds x hx; omega)
   rw [List.length_map, HL.out] at hin
   have HIN := Lib.hid hin
   have HBDS := Lib.hid hbds
   have HBE := Lib.hid HR.out.bel
   clear HR hrow hin hbds
   go_wp2_with fail
   refine (joined_any _ _ _ _ wr HIN.out HBDS.out hl).mono ?_
   rintro e w2 ⟨rfl, hb2⟩
   have HB2 := Lib.hid hb2
   clear hb2
   go_wp2
   go_ret
   exact str_fin (by rw [HBY.out]) (HBE.out.trans (HB2.out.mono hsz2))
set_option maxRecDepth 100000 in
set_option maxHeartbeats 4000000 in
theorem by_windows (l : List UInt8) (b : Nat) (w : World) (hl : l.length ≤ 1000000000) (hc : w.cell? ⟨b, 0, none⟩ = some (.func (.func 94) #[] #[])) (hb : b < w.heap.size) :
  Calls Tryz.prog 163 #[.string (ba l), .pointer (some ⟨b, 0, none⟩)] w (StrB w (bytesBy signW l)) := by
 have HBY := Lib.hid (bytesBy_eq signW l)
 have HCC := Lib.hid (show ∀ W, Below w.heap.size w W → W.cell? ⟨b, 0, none⟩ = some (.func (.func 94) #[] #[]) from fun W h => (h.cell (p := ⟨b, 0, none⟩) hb).trans hc)
 clear hc
 obtain ⟨n, hn⟩ : ∃ n, l.length = n := ⟨_, rfl⟩
 have HL := Lib.hid hn
 obtain ⟨s, hs⟩ : ∃ s, ba l = s := ⟨_, rfl⟩
 have HS := Lib.hid hs
 have HZ := Lib.hid (show s.size = n by rw [← hs, ba_size, hn])
 have hsz : (s.size : Int) = n := by rw [HZ.out]
 rw [hs]
 rw [hn] at hl
 clear hs hn
 have hmk := make_ints (m := n) (by omega)
 have HROW := Lib.hid (IntRow.made w n 3)
 go_enter Tryz.func163, Tryz.ntmps163
 go_wp2
 clear hmk
 go_loopw [11] (fun i wr => ∃ k : Nat, k ≤ n ∧ i = .int .i64 (k : Int) ∧ Hid (ByRel w signW l n k wr)) (fun i _ => n - (intOf i).toNat)
 case atStart => exact ⟨0, Nat.zero_le _, rfl, Lib.hid ⟨HROW.out, (Below.refl _ _).alloc (Nat.le_refl _) _⟩⟩
 case round =>
  obtain ⟨k, hk, rfl, HR⟩ := hrel
  have hsz2 := HR.out.bel.size
  by_cases hlt : k < n
  ·have hk2 : (k : Int) < (n : Int) := by omega
   have hk0 : (0 : Int) ≤ (k : Int) := by omega
   have hks : k < s.size := by rw [HZ.out]; omega
   have hkl : k < l.length := by rw [HL.out]; omega
   have hget : s[k] = l[k] := by
    have h := HS.out
    subst h
    rfl
   have hkr : k < ((l.take k).map (fun c => (signW c : Int)) ++ List.replicate (n - k) 0).length := by rw [List.length_append, List.length_map, List.length_take, List.length_replicate]; omega
   have hcell := HR.out.row.cell hkr
   have hfree := HR.out.row.free k
   have HSET := Lib.hid (fun c => HR.out.row.set hkr ((signW c : Nat) : Int))
   have hcf := HCC.out wr HR.out.bel
   have HBY2 := Lib.hid (fun c hc => by_set (f := signW) (c := c) HL.out hlt hc)
   obtain ⟨c, hc⟩ : ∃ c, l[k] = c := ⟨_, rfl⟩
   have HBY3 := Lib.hid (HBY2.out c hc)
   rw [hc] at hget
   obtain ⟨x, hx⟩ : ∃ x : Int, (c.toNat : Int) = x := ⟨_, rfl⟩
   have hgi : ((s[k]).toNat : Int) = x := by rw [hget]; exact hx
   have hsg := windows_any c
   rw [hx] at hsg
   obtain ⟨v, hv⟩ : ∃ v : Int, ((signW c : Nat) : Int) = v := ⟨_, rfl⟩
   have HV := Lib.hid hv
   rw [hv] at hsg
   have HsignW := Lib.hid hsg
   clear hc hkl hget hx hv hsg HBY2
   refine ?_
   go_wp2
   refine wp_region_tail 8 (by kernel_rfl) (by kernel_rfl) ?_
   simp only [List.take_succ_cons, List.take_zero, List.drop_succ_cons, List.drop_zero]
   repeat still_step
   still_call (HsignW.out _)
   repeat still_step
   try refine wpStill_nil ?_
   go_wp2
   go_roundw
   case rel =>
    refine ⟨k + 1, by omega, by go_num, Lib.hid ⟨?_, (HR.out.bel.drew).setCell (Nat.le_refl _) _⟩⟩
    rw [← HBY3.out, ← HV.out]
    exact HSET.out c
   case measure => simp [intOf] <;> omega
  ·obtain rfl : k = n := by omega
   have hrow : IntRow wr w.heap.size (l.map (fun c => (signW c : Int))) := by
    have := HR.out.row
    rw [List.take_of_length_le (by rw [HL.out]; exact Nat.le_refl _), show k - k = 0 by omega] at this
    simpa using this
   have hbds : ∀ x ∈ l.map (fun c => (signW c : Int)), 0 ≤ x ∧ x ≤ 1114111 := fun x hx => by
    obtain ⟨c, _, rfl⟩ := List.mem_map.1 hx
    have := signW_bd c
    omega
   have hin := hrow.ints (fun x hx => by have := hbds x hx; omega)
   rw [List.length_map, HL.out] at hin
   have HIN := Lib.hid hin
   have HBDS := Lib.hid hbds
   have HBE := Lib.hid HR.out.bel
   clear HR hrow hin hbds
   go_wp2_with fail
   refine (joined_any _ _ _ _ wr HIN.out HBDS.out hl).mono ?_
   rintro e w2 ⟨rfl, hb2⟩
   have HB2 := Lib.hid hb2
   clear hb2
   go_wp2
   go_ret
   exact str_fin (by rw [HBY.out]) (HBE.out.trans (HB2.out.mono hsz2))
end Go.Proofs.YthidbmeaccpjdaaGreatDoor
end
section
namespace Go.Proofs.YthidbmeaccpjdaaGreatDoor
open Go.RowKit
set_option linter.unusedVariables false
def asIs (v : Value) : Option (DataW Value × List MemPlace) := some (.held v, [])
structure KeyL (k : TypeId) (κ : Type) where
 kv : κ → Value
 fits : κ → Prop
 kk : κ → Lit
 keyed : Maps.Keyed Tryz.prog k
 of : ∀ x, fits x → keyOf Tryz.prog k (kv x) = some (kk x)
 inj : ∀ x y, fits x → fits y → kk x = kk y → x = y
def MapL {k : TypeId} {κ : Type} (K : KeyL k κ) (w : World) (b : Nat) (f : κ → Option Value) (c : Nat) : Prop :=
 ∃ D, w.ownsMap Tryz.prog k asIs b c D ∧ ∀ x, K.fits x → ∀ z, D.atKey (K.kk x) z = match f x with | some v => .held v | none => z
theorem ownsMap_block {H : Type} {P : Program} {k : TypeId} {R : Value → Option (DataW H × List MemPlace)} {w w' : World} {b n : Nat} {D : DataW H} (h : w.ownsMap P k R b n D) (hb : w'.heap[b]? = w.heap[b]?) : w'.ownsMap P k R b n D := by
 obtain ⟨es, clock, h1, h2⟩ := h
 exact ⟨es, clock, hb.trans h1, h2⟩
section
variable {k : TypeId} {κ : Type} {K : KeyL k κ} {w w' : World} {b c : Nat} {f : κ → Option Value}
theorem MapL.keep (h : MapL K w b f c) (hb : w'.heap[b]? = w.heap[b]?) : MapL K w' b f c := by
 obtain ⟨D, h1, h2⟩ := h; exact ⟨D, ownsMap_block h1 hb, h2⟩
theorem MapL.lt (h : MapL K w b f c) : b < w.heap.size := by obtain ⟨D, h1, _⟩ := h; exact h1.lt
theorem MapL.below (h : MapL K w b f c) (hb : Below w.heap.size w w') : MapL K w' b f c := h.keep (hb.block b h.lt)
theorem MapL.mono (h : MapL K w b f c) {c' : Nat} (hc : c ≤ c') : MapL K w b f c' := by
 obtain ⟨D, h1, h2⟩ := h; exact ⟨D, h1.mono hc, h2⟩
theorem MapL.congr (h : MapL K w b f c) {g : κ → Option Value} (hg : ∀ x, K.fits x → g x = f x) : MapL K w b g c := by
 obtain ⟨D, h1, h2⟩ := h; exact ⟨D, h1, fun x hx z => by rw [hg x hx]; exact h2 x hx z⟩
theorem MapL.made (K : KeyL k κ) (w : World) : MapL K (w.alloc (.map #[] 0)) w.heap.size (fun _ => none) 0 := ⟨_, World.ownsMap_made _ _ _ _, fun _ _ _ => rfl⟩
theorem MapL.look {t e : TypeId} (h : MapL K w b f c) (ht : Tryz.prog.underlying t = some (.map k e)) {z : Value} (hz : (zeroValue e).run Tryz.prog w = .ok z w) {x : κ} (hx : K.fits x) :
  (Instr.lookup t (.map (some b)) (K.kv x) false).run Tryz.prog w = .ok ((f x).getD z) w := by
 obtain ⟨D, h1, h2⟩ := h
 obtain ⟨v, ps, hrun, hv⟩ := h1.lookup K.keyed ht hz (zd := .held z) (zp := []) rfl (K.of x hx)
 rw [h2 x hx] at hv
 rw [hrun]
 unfold asIs at hv
 cases hn : f x with
 | none => rw [hn] at hv; simp only [Option.some.injEq, Prod.mk.injEq, DataW.held.injEq] at hv; rw [hv.1]; rfl
 | some g => rw [hn] at hv; simp only [Option.some.injEq, Prod.mk.injEq, DataW.held.injEq] at hv; rw [hv.1]; rfl
theorem MapL.look_ok {t e : TypeId} (h : MapL K w b f c) (ht : Tryz.prog.underlying t = some (.map k e)) {z : Value} (hz : (zeroValue e).run Tryz.prog w = .ok z w) {x : κ} (hx : K.fits x) :
  (Instr.lookup t (.map (some b)) (K.kv x) true).run Tryz.prog w = .ok (.tuple #[(f x).getD z, .bool (f x).isSome]) w := by
 obtain ⟨D, h1, h2⟩ := h
 obtain ⟨v, ps, hrun, hv⟩ := h1.look_ok K.keyed ht hz (zd := .held z) (zp := []) rfl (K.of x hx)
 have h3 := h2 x hx
 rw [h3] at hv
 rw [hrun]
 unfold asIs at hv
 cases hn : f x with
 | none =>
  rw [hn] at hv h3
  simp only [Option.some.injEq, Prod.mk.injEq, DataW.held.injEq] at hv
  rw [hv.1, Maps.has_false_of_atKey h3]
  rfl
 | some g =>
  rw [hn] at hv h3
  simp only [Option.some.injEq, Prod.mk.injEq, DataW.held.injEq] at hv
  rw [hv.1, Maps.has_true_of_atKey h3]
  rfl
open Classical in
noncomputable def updK {κ : Type} (f : κ → Option Value) (x : κ) (v : Value) : κ → Option Value := fun y => if y = x then some v else f y
theorem updK_same {κ : Type} (f : κ → Option Value) (x : κ) (v : Value) : updK f x v x = some v := by unfold updK; rw [if_pos rfl]
theorem updK_other {κ : Type} (f : κ → Option Value) {x y : κ} (v : Value) (h : y ≠ x) : updK f x v y = f y := by unfold updK; rw [if_neg h]
theorem MapL.put {t e : TypeId} (h : MapL K w b f c) (ht : Tryz.prog.underlying t = some (.map k e)) (hc : c < maxLen) {x : κ} (hx : K.fits x) (v : Value) :
  ∃ w', (Instr.mapUpdate t (.map (some b)) (K.kv x) v).run Tryz.prog w = .ok () w' ∧ MapL K w' b (updK f x v) (c + 1) ∧ w.grownBy w' (some b) := by
 obtain ⟨D, h1, h2⟩ := h
 have hm := h1.isMap
 obtain ⟨w', hrun, ho, hg⟩ := h1.update K.keyed ht hc (d := .held v) (ps := []) (K.of x hx) (val := v) rfl
 refine ⟨w', hrun, ⟨_, ho, fun y hy z => ?_⟩, hg⟩
 by_cases e : y = x
 ·subst e
  rw [updK_same, Maps.atKey_put_same hm (K.keyed.key (K.of y hx))]
 ·rw [updK_other _ _ e, Maps.atKey_put_other (fun e1 => e (K.inj y x hy hx e1)), h2 y hy]
end
theorem laidOut : laidOutB Tryz.prog = true := by kernel_rfl
theorem wf64 {i : Int} (h : -9223372036854775808 ≤ i ∧ i ≤ 9223372036854775807) : (Lit.int .i64 i).wf = true := by
 unfold Lit.wf
 have h1 : IntKind.i64.min = -9223372036854775808 := by decide
 have h2 : IntKind.i64.max = 9223372036854775807 := by decide
 simp only [h1, h2, Bool.and_eq_true, decide_eq_true_eq]; exact h
theorem strK_of (x : List UInt8) (hx : x.length ≤ maxLen) : keyOf Tryz.prog 9 (.string (ba x)) = some (.string x) := by
 have h2 : (ba x).size ≤ maxLen := by rw [ba_size]; exact hx
 have h3 : keyOf Tryz.prog 9 (.string (ba x)) = mapKey Tryz.prog 9 (.string (ba x)) := by simp [keyOf, Tryz.underlying9]
 rw [h3]
 simp [mapKey, Tryz.underlying9, h2, ba_list]
noncomputable def strK : KeyL 9 (List UInt8) where
 kv := fun x => .string (ba x)
 fits := fun x => x.length ≤ maxLen
 kk := fun x => .string x
 keyed := Maps.string_keyed Tryz.underlying9
 of := strK_of
 inj := fun x y _ _ h => by injection h
end Go.Proofs.YthidbmeaccpjdaaGreatDoor
end
section
namespace Go.Proofs.YthidbmeaccpjdaaGreatDoor
open Go.RowKit
set_option linter.unusedVariables false
theorem rowS : (198 : TypeId) < Tryz.prog.types.size := of_decide_eq_true (by kernel_rfl)
theorem lawS : WideMaps.KeyLaw Tryz.prog 198 := deep_law_laid laidOut (m := 3) (by omega) rowS (by kernel_rfl) (by rw [Tryz.underlying198])
theorem cellsS : Tryz.prog.cellsOf 198 = 3 := by kernel_rfl
theorem cells3 : Tryz.prog.cellsOf 3 = 1 := by kernel_rfl
theorem cells4 : Tryz.prog.cellsOf 4 = 1 := by kernel_rfl
theorem cells9 : Tryz.prog.cellsOf 9 = 1 := by kernel_rfl
theorem ktS : Tryz.prog.keyType 198 = true := by kernel_rfl
theorem types_sizeS : ∃ n, Tryz.prog.types.size + 1 = n + 2 := ⟨Tryz.prog.types.size - 1, by have : (198 : Nat) < Tryz.prog.types.size := rowS; omega⟩
def spotV (p : Spot3) : Value := .agg #[.string (ba p.name), .int .i64 p.section_, .bool p.wide]
def SpotFits (p : Spot3) : Prop := (Lit.int .i64 p.section_).wf = true ∧ p.name.length ≤ maxLen
theorem spot_some {p : Spot3} (h : SpotFits p) : ∃ l, keyOf Tryz.prog 198 (spotV p) = some l := by
 obtain ⟨n, hn⟩ := types_sizeS
 have hf : (spotV p).formed Tryz.prog 198 = true := by simp [spotV, Value.formed, Tryz.underlying198, cellsS]
 have hc : (spotV p).cells.toList = [.string (ba p.name), .int .i64 p.section_, .bool p.wide] := rfl
 have h1 := h.1
 have h2 : (ba p.name).size ≤ maxLen := by rw [ba_size]; exact h.2
 unfold keyOf
 rw [Tryz.underlying198]
 simp only [ktS, hf, hn, hc]
 simp [Program.keyLits, Tryz.underlying198, Tryz.underlying3, Tryz.underlying9, Tryz.underlying4, cellsS, cells3, cells4, cells9, h1, h2]
noncomputable def spotL (p : Spot3) : Lit := (keyOf Tryz.prog 198 (spotV p)).getD (.bool false)
theorem spotL_of (p : Spot3) (h : SpotFits p) : keyOf Tryz.prog 198 (spotV p) = some (spotL p) := by
 obtain ⟨l, hl⟩ := spot_some h
 unfold spotL; rw [hl]; rfl
theorem spotV_inj {p q : Spot3} (h : spotV p = spotV q) : p = q := by
 simp only [spotV, Value.agg.injEq] at h
 have h3 : [Value.string (ba p.name), Value.int .i64 p.section_, Value.bool p.wide] = [Value.string (ba q.name), Value.int .i64 q.section_, Value.bool q.wide] := congrArg Array.toList h
 simp only [List.cons.injEq, Value.int.injEq, Value.string.injEq, Value.bool.injEq, and_true, true_and] at h3
 obtain ⟨a, b, c⟩ := p
 obtain ⟨a', b', c'⟩ := q
 have e1 : a = a' := ba_inj.1 h3.1
 have e2 : b = b' := h3.2.1
 have e3 : c = c' := h3.2.2
 subst e1; subst e2; subst e3
 rfl
noncomputable def spotK : KeyL 198 Spot3 where
 kv := spotV
 fits := SpotFits
 kk := spotL
 keyed := .of_law lawS
 of := spotL_of
 inj := fun x y hx hy h => spotV_inj (lawS.inj (spotL_of x hx) (by rw [h]; exact spotL_of y hy))
end Go.Proofs.YthidbmeaccpjdaaGreatDoor
end
section
namespace Go.Proofs.YthidbmeaccpjdaaGreatDoor
open Go.RowKit
set_option linter.unusedVariables false
set_option maxRecDepth 100000 in
set_option maxHeartbeats 4000000 in
theorem chsmall_big (l : List UInt8) (w : World) (hl : l.length ≤ 4000000000) :
  Calls Tryz.prog 92 #[.string (ba l)] w (StrB w (smallP l)) := by
 have hcv := fun (W : World) (S : ByteArray) => run_bytes_of_string (P := Tryz.prog) W 9 62 5 S Tryz.underlying9 Tryz.underlying62 Tryz.underlying5
 have HR0 := Lib.hid (fun (cap m : Nat) (hm : l.length ≤ m) => ByteRow.of_string w l cap 5 m hm)
 obtain ⟨n, hn⟩ : ∃ n, l.length = n := ⟨_, rfl⟩
 have HL := Lib.hid hn
 obtain ⟨s, hs⟩ : ∃ s, ba l = s := ⟨_, rfl⟩
 have HS := Lib.hid hs
 have HZ := Lib.hid (show s.size = n by rw [← hs, ba_size, hn])
 have hsz : (s.size : Int) = n := by rw [HZ.out]
 rw [hs]
 rw [hn] at hl
 clear hs hn
 rw [HS.out] at HR0
 go_enter Tryz.func92, Tryz.ntmps92
 go_wp2
 obtain ⟨C, hC⟩ : ∃ C, grownCap w s.size 0 5 = C := ⟨_, rfl⟩
 have HCN := Lib.hid (show l.length ≤ (bytesRow s C).size by rw [bytesRow_size s C (by rw [← hC]; have := grownCap_ge w s.size 0 5; omega), ← hC, HL.out]; have := grownCap_ge w s.size 0 5; omega)
 rw [hC]
 clear hC hcv
 go_loopw [10] (fun i wr => ∃ k : Nat, k ≤ n ∧ i = .int .i64 (k : Int) ∧ Hid (SmRel w l k wr)) (fun i _ => n - (intOf i).toNat)
 case atStart =>
  refine ⟨0, Nat.zero_le _, rfl, Lib.hid ⟨?_, (Below.refl _ _).drew.alloc (Nat.le_refl _) _⟩⟩
  rw [show smallP (l.take 0) ++ l.drop 0 = l from rfl]
  exact (HR0.out C _ HCN.out).drew
 case round =>
  obtain ⟨k, hk, rfl, HR⟩ := hrel
  have hsz2 := HR.out.bel.size
  by_cases hlt : k < n
  ·have hk2 : (k : Int) < (n : Int) := by omega
   have hk3 : (k : Int) < (s.size : Int) := by omega
   have hk0 : (0 : Int) ≤ (k : Int) := by omega
   have hkl : k < l.length := by rw [HL.out]; exact hlt
   have hks : k < (smallP (l.take k) ++ l.drop k).length := by rw [sm_len]; exact hkl
   have hcell := HR.out.row.cell hks
   have hfree := HR.out.row.free hks
   rw [sm_get hkl hks] at hcell
   have HST := Lib.hid (sm_step hkl)
   have HSA := Lib.hid (sm_same hkl)
   have HSET := Lib.hid (HR.out.row.set hks (smallB l[k]))
   obtain ⟨c, hc⟩ : ∃ c, l[k] = c := ⟨_, rfl⟩
   rw [hc] at hcell HST HSA HSET
   have HY := Lib.hid (smallB_yes (c := c))
   have HNO := Lib.hid (smallB_no (c := c))
   obtain ⟨x, hx⟩ : ∃ x : Int, (c.toNat : Int) = x := ⟨_, rfl⟩
   rw [hx] at hcell HY HNO
   have hx0 : 0 ≤ x := by omega
   have hx1 : x ≤ 255 := by have := c.toNat_lt; omega
   have HX := Lib.hid hx
   clear hc hkl hks hx
   by_cases e1 : 65 ≤ x
   ·by_cases e2 : x ≤ 90
    ·have g1 : decide (65 ≤ x) = true := decide_eq_true e1
     have g2 : decide (x ≤ 90) = true := decide_eq_true e2
     have HV := Lib.hid (show (smallB c).toNat = x + 32 by rw [HY.out ⟨e1, e2⟩]; have := HX.out; have := c.toNat_lt; simp; omega)
     go_wp2
     go_roundw
     case rel =>
      refine ⟨k + 1, by omega, by go_num, Lib.hid ⟨?_, HR.out.bel.setCell (Nat.le_refl _) _⟩⟩
      rw [HST.out]
      have := HSET.out
      rw [HV.out, show x + 32 = x + 97 - 65 by omega] at this
      exact this
     case measure => simp [intOf] <;> omega
    ·have g1 : decide (65 ≤ x) = true := decide_eq_true e1
     have g2 : decide (x ≤ 90) = false := decide_eq_false e2
     have HV := Lib.hid (HSA.out (HNO.out fun h => e2 h.2))
     clear hfree
     go_wp2
     go_roundw
     case rel =>
      refine ⟨k + 1, by omega, by go_num, Lib.hid ⟨?_, HR.out.bel⟩⟩
      rw [HV.out]
      exact HR.out.row
     case measure => simp [intOf] <;> omega
   ·have g1 : decide (65 ≤ x) = false := decide_eq_false e1
    have HV := Lib.hid (HSA.out (HNO.out fun h => e1 h.1))
    clear hfree
    go_wp2
    go_roundw
    case rel =>
     refine ⟨k + 1, by omega, by go_num, Lib.hid ⟨?_, HR.out.bel⟩⟩
     rw [HV.out]
     exact HR.out.row
    case measure => simp [intOf] <;> omega
  ·obtain rfl : k = n := by omega
   have hrow : ByteRow wr w.heap.size (smallP l) := by
    have := HR.out.row
    rw [List.take_of_length_le (by rw [HL.out]; exact Nat.le_refl _), List.drop_of_length_le (by rw [HL.out]; exact Nat.le_refl _), List.append_nil] at this
    exact this
   have hback := run_convert_bytes_back (P := Tryz.prog) wr 62 9 5 ⟨w.heap.size, 0, none⟩ C (smallP l) Tryz.underlying62 Tryz.underlying5 Tryz.underlying9 hrow.cells
   rw [smallP_len, HL.out, ← HZ.out] at hback
   clear hrow hsz
   go_wp2
   go_ret
   exact ⟨rfl, HR.out.bel⟩
theorem chsmall_any (l : List UInt8) (w : World) (hl : l.length ≤ 1000000000) :
  Calls Tryz.prog 92 #[.string (ba l)] w (StrB w (smallP l)) := chsmall_big l w (by omega)
end Go.Proofs.YthidbmeaccpjdaaGreatDoor
end
