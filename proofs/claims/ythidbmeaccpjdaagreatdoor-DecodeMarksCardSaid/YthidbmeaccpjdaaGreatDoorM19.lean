/- Layer 6: the contracts of byteAt, unescape and UnQ. Layer 15: the contracts of sign, breaks, behind, tags and named (printed by gen_deca. -/
import Derived.Test.YthidbmeaccpjdaaGreatDoorM07
import Derived.Test.YthidbmeaccpjdaaGreatDoorM11
import Derived.Test.YthidbmeaccpjdaaGreatDoorM14
import Derived.Test.YthidbmeaccpjdaaGreatDoorM15
import Derived.Test.YthidbmeaccpjdaaGreatDoorM09
import Derived.Test.YthidbmeaccpjdaaGreatDoorM06
import Derived.Test.YthidbmeaccpjdaaGreatDoorM18
namespace Go.Proofs.YthidbmeaccpjdaaGreatDoor
open Go.RowKit
set_option linter.unusedVariables false
set_option maxHeartbeats 4000000
theorem escB_short : ∀ {l : List UInt8}, l.length < 3 → escB l = none
 | [], _ => rfl
 | [_], _ => rfl
 | [_, _], _ => rfl
 | _ :: _ :: _ :: _, h => by simp at h; omega
theorem escB_not {c : UInt8} (h : c ≠ 61) (t : List UInt8) : escB (c :: t) = none := by
 unfold escB
 split
 ·rename_i heq
  injection heq with h1 h2
  subst h1
  rw [if_neg h]
 ·rfl
def byteV (l : List UInt8) : List UInt8 × Bool := ((escB l).elim [] (fun x => [x]), (escB l).isSome)
theorem byteV_no {l : List UInt8} (h : escB l = none) : byteV l = ([], false) := by unfold byteV; rw [h]; rfl
theorem byteV_hex {c : UInt8} {r : List UInt8} (h : c = 61) (hr : ¬ (c :: r).length < 3) : ((unhexP (((c :: r).take 3).drop 1)).getD [], (unhexP (((c :: r).take 3).drop 1)).isSome) = byteV (c :: r) := by
 subst h
 match r, hr with
 | a :: b :: t, _ =>
  have e : escB (61 :: a :: b :: t) = (match hexV a, hexV b with
   | some x, some y => some (UInt8.ofNat (x * 16 + y))
   | _, _ => none) := by
   simp only [escB, if_true]
   rfl
  unfold byteV
  rw [e]
  show ((unhexP [a, b]).getD [], (unhexP [a, b]).isSome) = _
  unfold unhexP
  cases hexV a with
  | none => rfl
  | some x =>
   cases hexV b with
   | none => rfl
   | some y => rfl
 | [a], h => simp at h
 | [], h => simp at h
def BytePost (w : World) (l : List UInt8) (e : Ending) (w' : World) : Prop := e = .returned (.tuple #[.string (ba (byteV l).1), .bool (byteV l).2]) ∧ Below w.heap.size w w'
set_option maxRecDepth 100000 in
theorem byteAt_any (l : List UInt8) (w : World) (hl : l.length ≤ 1000000000) :
  Calls Tryz.prog 158 #[.string (ba l)] w (BytePost w l) := by
 unfold BytePost
 by_cases h3 : l.length < 3
 ·rw [byteV_no (escB_short h3)]
  obtain ⟨n, hn⟩ : ∃ n, l.length = n := ⟨_, rfl⟩
  have HL := Lib.hid hn
  obtain ⟨s, hs⟩ : ∃ s, ba l = s := ⟨_, rfl⟩
  have HS := Lib.hid hs
  have HZ := Lib.hid (show s.size = n by rw [← hs, ba_size, hn])
  have hsz : (s.size : Int) = n := by rw [HZ.out]
  rw [hs]
  rw [hn] at hl h3
  clear hs hn
  have g1 : decide ((n : Int) < 3) = true := decide_eq_true (by omega)
  go_enter Tryz.func158, Tryz.ntmps158
  go_wp2
  go_ret2
  exact ⟨rfl, Below.refl _ _⟩
 ·obtain ⟨c, r, rfl⟩ : ∃ c r, l = c :: r := by
   cases l with
   | nil => exact absurd (by decide) h3
   | cons c r => exact ⟨c, r, rfl⟩
  have HUN := Lib.hid (fun W => unhex_any (((c :: r).take 3).drop 1) W (by rw [List.length_drop, List.length_take]; omega))
  unfold UnhexPost at HUN
  have HV := Lib.hid (fun h => byteV_hex (c := c) (r := r) h h3)
  have HNO := Lib.hid (fun h => byteV_no (escB_not (c := c) h r))
  have hx0 : (ba (c :: r)).extract 1 3 = ba (((c :: r).take 3).drop 1) := ba_cut _ _ _
  obtain ⟨q, hq⟩ : ∃ q, ((c :: r).take 3).drop 1 = q := ⟨_, rfl⟩
  rw [hq] at hx0
  simp only [hq] at HUN HV
  obtain ⟨x, hx⟩ : ∃ x : Int, (c.toNat : Int) = x := ⟨_, rfl⟩
  have hgi : ∃ h : 0 < (ba (c :: r)).size, (((ba (c :: r))[0]'h).toNat : Int) = x := ⟨by rw [ba_size]; simp, hx⟩
  have HX := Lib.hid hx
  obtain ⟨bv, hbv⟩ : ∃ v, byteV (c :: r) = v := ⟨_, rfl⟩
  simp only [hbv] at HV HNO
  rw [hbv]
  clear hq hx hbv
  obtain ⟨n, hn⟩ : ∃ n, (c :: r).length = n := ⟨_, rfl⟩
  obtain ⟨s, hs⟩ : ∃ s, ba (c :: r) = s := ⟨_, rfl⟩
  have hsz : (s.size : Int) = n := by rw [← hs, ba_size, hn]
  rw [hs] at hx0 hgi ⊢
  rw [hn] at h3 hl
  clear hs hn
  obtain ⟨hz0, hgj⟩ := hgi
  have g1 : decide ((n : Int) < 3) = false := decide_eq_false (by omega)
  have h3i : (3 : Int) ≤ (n : Int) := by omega
  by_cases e : c = 61
  ·have HVV := Lib.hid (HV.out e)
   have g2 : (x == 61) = true := by subst e; rw [← HX.out]; rfl
   have HX0 := Lib.hid hx0
   clear e HNO HX HV hx0
   go_enter Tryz.func158, Tryz.ntmps158
   go_wp2_with fail
   rw [HX0.out]
   refine (HUN.out _).mono ?_
   rintro e w2 ⟨rfl, hb⟩
   have HB := Lib.hid hb
   clear hb
   go_wp2
   go_ret2
   refine ⟨?_, HB.out⟩
   rw [← HVV.out]
   rfl
  ·have HVV := Lib.hid (HNO.out e)
   have g2 : (x == 61) = false := by
    rw [← HX.out, beq_eq_false_iff_ne]
    intro h
    exact e (UInt8.toNat_inj.1 (by have : (61 : UInt8).toNat = 61 := rfl; omega))
   clear e HV HX HNO hx0 HUN
   go_enter Tryz.func158, Tryz.ntmps158
   go_wp2
   go_ret2
   rw [HVV.out]
   exact ⟨rfl, Below.refl _ _⟩
structure UqRel (w : World) (l r : List UInt8) (wr : World) : Prop where
 ex : ∃ acc, Bld wr w.heap.size w.heap.size acc ∧ acc ++ unqP r = unqP l ∧ acc.length + r.length ≤ l.length
 bel : Below w.heap.size w wr
set_option maxRecDepth 100000 in
theorem unescape_any (l : List UInt8) (w : World) (hl : l.length ≤ 1000000000) :
  Calls Tryz.prog 86 #[.string (ba l)] w (StrB w (unqP l)) := by
 have HB0 := Lib.hid (bld_new w)
 have HL := Lib.hid hl
 obtain ⟨L, hL⟩ : ∃ L, l = L := ⟨_, rfl⟩
 have HREL := Lib.hid (show ∀ wr, wr = w.alloc (.cells #[.pointer none, .slice none 0 0] 64) → UqRel w l l wr from by
  rintro wr rfl
  exact ⟨⟨[], HB0.out, rfl, by simp⟩, (Below.refl _ _).alloc (Nat.le_refl _) _⟩)
 clear hl
 rw [hL]
 rw [hL] at HREL HL
 clear hL HB0
 go_enter Tryz.func86, Tryz.ntmps86
 go_wp2
 go_loopw [0, 4, 5] (fun s a b wr => ∃ (r : List UInt8) (y z : Value), a = y ∧ b = z ∧ s = .string (ba r) ∧ Hid (UqRel w L r wr)) (fun s _ _ _ => Lib.strSize s)
 case atStart => exact ⟨L, _, _, rfl, rfl, rfl, Lib.hid (HREL.out _ rfl)⟩
 case round =>
  obtain ⟨r, y, z, rfl, rfl, rfl, HR⟩ := hrel
  obtain ⟨acc, hbld, heq, hal⟩ := HR.out.ex
  have HBL := Lib.hid hbld
  have HEQ := Lib.hid heq
  have HBE := Lib.hid HR.out.bel
  have hszr := HR.out.bel.size
  have HAL := Lib.hid hal
  have hrl : r.length ≤ 1000000000 := by have := HL.out; omega
  have hac : acc.length ≤ 1000000000 := by have := HL.out; omega
  clear hbld heq hal HR
  cases r with
  | nil =>
   have g1 : (ba ([] : List UInt8)).toList.isEmpty = true := by rw [ba_toList]; rfl
   have HE := Lib.hid (show acc = unqP L by rw [← HEQ.out, unqP_nil, List.append_nil])
   go_wp2_with fail
   refine (bld_string _ _ _ wr HBL.out hszr).mono ?_
   rintro e w2 ⟨rfl, hW⟩
   have HW := Lib.hid hW
   clear hW
   go_wp2
   go_ret
   exact str_fin (by rw [HE.out]) (HBE.out.trans HW.out.bel)
  | cons c r =>
   have g1 : (ba (c :: r)).toList.isEmpty = false := by rw [ba_toList]; rfl
   have HBY := Lib.hid (byteAt_any (c :: r) wr hrl)
   unfold BytePost at HBY
   have hx3 : (ba (c :: r)).extract 3 (ba (c :: r)).size = ba ((c :: r).drop 3) := ba_drop _ _
   have hx1 : (ba (c :: r)).extract 1 (ba (c :: r)).size = ba r := ba_drop _ _
   have HX3 := Lib.hid hx3
   have HX1 := Lib.hid hx1
   have HZ0 := Lib.hid (show (ba (c :: r)).size = r.length + 1 by rw [ba_size]; rfl)
   have HZR := Lib.hid (show (ba r).size = r.length by rw [ba_size])
   cases he : escB (c :: r) with
   | none =>
    have HU := Lib.hid (unqP_skip he)
    rw [byteV_no he] at HBY
    clear he
    have hz0 : 0 < (ba (c :: r)).size := by rw [HZ0.out]; omega
    have h1i : (1 : Int) ≤ ((ba (c :: r)).size : Int) := by rw [HZ0.out]; omega
    have hgi : ∃ h : 0 < (ba (c :: r)).size, (((ba (c :: r))[0]'h).toNat : Int) = (c.toNat : Int) := ⟨hz0, rfl⟩
    have hxx := HX1.out
    obtain ⟨s, hs⟩ : ∃ s, ba (c :: r) = s := ⟨_, rfl⟩
    rw [hs] at HZ0 hxx h1i g1 hgi
    simp only [hs] at HBY
    rw [hs]
    clear hs hx3 hx1 HX3 HX1 hz0
    obtain ⟨hz0, hgj⟩ := hgi
    go_wp2_with fail
    refine HBY.out.mono ?_
    rintro e w2 ⟨rfl, hb2⟩
    have HB2 := Lib.hid hb2
    clear hb2
    have HWB := Lib.hid (write_byte _ _ acc c w2 (HBL.out.below HB2.out) (by omega) (Nat.le_trans hszr HB2.out.size))
    go_wp2_with fail
    refine HWB.out.mono ?_
    rintro e w3 ⟨rfl, hW⟩
    have HN := Lib.hid (show UqRel w L r w3 from ⟨⟨acc ++ [c], hW.bld, by rw [← HEQ.out, HU.out]; simp, by have := HAL.out; simp at this ⊢; omega⟩, (HBE.out.trans (HB2.out.mono hszr)).trans hW.bel⟩)
    clear hW
    go_wp2
    go_roundw
    case rel => exact ⟨r, _, _, rfl, rfl, rfl, HN⟩
    case measure => rw [Lib.strSize_string, Lib.strSize_string, HZ0.out, HZR.out]; omega
   | some x =>
    have HU := Lib.hid (unqP_hit he)
    have hlen3 : 3 ≤ r.length + 1 := by
     have : ¬ (c :: r).length < 3 := fun h => by rw [escB_short h] at he; cases he
     simp at this
     omega
    rw [show byteV (c :: r) = ([x], true) by unfold byteV; rw [he]; rfl] at HBY
    clear he
    have h3i : (3 : Int) ≤ ((ba (c :: r)).size : Int) := by rw [HZ0.out]; omega
    have hxx : (ba (c :: r)).extract 3 (ba (c :: r)).size = ba (r.drop 2) := HX3.out
    have HZ2 := Lib.hid (show (ba (r.drop 2)).size = r.length - 2 by rw [ba_size, List.length_drop])
    obtain ⟨s, hs⟩ : ∃ s, ba (c :: r) = s := ⟨_, rfl⟩
    rw [hs] at HZ0 hxx h3i g1
    simp only [hs] at HBY
    rw [hs]
    clear hs hx3 hx1 HX3 HX1
    go_wp2_with fail
    refine HBY.out.mono ?_
    rintro e w2 ⟨rfl, hb2⟩
    have HB2 := Lib.hid hb2
    clear hb2
    have HWB := Lib.hid (write_string _ _ acc [x] w2 (HBL.out.below HB2.out) (by simp; omega) (Nat.le_trans hszr HB2.out.size))
    go_wp2_with fail
    refine HWB.out.mono ?_
    rintro e w3 ⟨rfl, hW⟩
    have HN := Lib.hid (show UqRel w L (r.drop 2) w3 from ⟨⟨acc ++ [x], hW.bld, by rw [← HEQ.out, HU.out]; simp, by have := HAL.out; simp at this ⊢; omega⟩, (HBE.out.trans (HB2.out.mono hszr)).trans hW.bel⟩)
    clear hW
    go_wp2
    go_roundw
    case rel => exact ⟨r.drop 2, _, _, rfl, rfl, rfl, HN⟩
    case measure => rw [Lib.strSize_string, Lib.strSize_string, HZ0.out, HZ2.out]; omega
theorem under_eq : ∀ (l : List UInt8), repA [95] [32] l = l.map fun c => if c = 95 then 32 else c
 | [] => repA_nil (by simp)
 | c :: r => by
  by_cases he : c = 95
  ·subst he
   have h3 := repA_hit (old := [95]) (new := [32]) (s := r) (by simp)
   simp only [List.cons_append, List.nil_append] at h3
   rw [h3, under_eq r]
   rfl
  ·rw [repA_skip (by simp) (occ_head he), under_eq r, List.map_cons, if_neg he]
set_option maxRecDepth 100000 in
theorem unq_any (l : List UInt8) (w : World) (hl : l.length ≤ 1000000000) (hT : Tabs w) :
  Calls Tryz.prog 171 #[.string (ba l)] w (StrB w (unqQ l)) := by
 have HRE := Lib.hid (show Calls Tryz.prog 44 #[.string (ba l), .string ⟨#[95]⟩, .string ⟨#[32]⟩] w (StrB w (l.map fun c => if c = 95 then 32 else c)) by
  obtain ⟨m, hm⟩ := hT.max
  refine (Tryz.strings_ReplaceAll (ba l) ⟨#[95]⟩ ⟨#[32]⟩ m w (by rw [ba_size]; omega) hm (by decide) (by rw [ba_size]; have := Lib.count_le l [95]; show l.length + Lib.count l [95] * 1 ≤ _; omega)).mono ?_
  rintro e w' ⟨rfl, hb⟩
  refine ⟨?_, hb⟩
  rw [ba_list]
  have e1 : Lib.replaceAll l (⟨#[95]⟩ : ByteArray).data.toList (⟨#[32]⟩ : ByteArray).data.toList = repA [95] [32] l := replaceAll_eq (by decide) l
  rw [e1, under_eq]
  rfl)
 have HUE := Lib.hid (fun W => unescape_any (l.map fun c => if c = 95 then 32 else c) W (by rw [List.length_map]; exact hl))
 unfold StrB at HRE HUE
 clear hT
 go_enter Tryz.func171, Tryz.ntmps171
 go_wp2_with fail
 refine HRE.out.mono ?_
 rintro e w1 ⟨rfl, hb1⟩
 have HB1 := Lib.hid hb1
 clear hb1
 go_wp2_with fail
 refine (HUE.out w1).mono ?_
 rintro e w2 ⟨rfl, hb2⟩
 have HB2 := Lib.hid (HB1.out.trans (hb2.mono HB1.out.size))
 clear hb2
 go_wp2
 go_ret
 exact ⟨rfl, HB2.out⟩
theorem sign_any (c : UInt8) (w : World) : Calls Tryz.prog 109 #[.int .u8 (c.toNat : Int)] w fun e w' => e = .returned (.bool (signB c)) ∧ w' = w := by
 obtain ⟨x, hx⟩ : ∃ x : Int, (c.toNat : Int) = x := ⟨_, rfl⟩
 have HF := Lib.hid (fun b => letterV hx (b := b))
 rw [hx]
 clear hx
 go_enter Tryz.func109, Tryz.ntmps109
 go_wp2
 all_goals
  go_ret
  refine ⟨?_, rfl⟩
  show Ending.returned (Value.bool _) = Ending.returned (Value.bool (letterB c))
  rw [HF.out _ rfl]
  congr 2
  rw [Bool.eq_iff_iff]
  simp only [Bool.or_eq_true, Bool.and_eq_true, decide_eq_true_iff]
  first | omega | (simp; omega)
theorem breaks_any (t : List UInt8) (w : World) : Calls Tryz.prog 113 #[.string (ba t)] w fun e w' => e = .returned (.bool (decide (t ∈ breakNames))) ∧ w' = w := by
 by_cases h0 : t = [98, 114]
 ·have HF := Lib.hid (show decide (t ∈ breakNames) = true by rw [h0]; decide)
  have g0 : ((ba t).toList == [98, 114]) = true := by rw [ba_toList, h0]; decide
  clear h0
  go_enter Tryz.func113, Tryz.ntmps113
  go_wp2
  go_ret
  exact ⟨by rw [HF.out]; rfl, rfl⟩
 have g0 : ((ba t).toList == [98, 114]) = false := by rw [ba_toList]; simpa using h0
 by_cases h1 : t = [112]
 ·have HF := Lib.hid (show decide (t ∈ breakNames) = true by rw [h1]; decide)
  have g1 : ((ba t).toList == [112]) = true := by rw [ba_toList, h1]; decide
  clear h0 h1
  go_enter Tryz.func113, Tryz.ntmps113
  go_wp2
  go_ret
  exact ⟨by rw [HF.out]; rfl, rfl⟩
 have g1 : ((ba t).toList == [112]) = false := by rw [ba_toList]; simpa using h1
 by_cases h2 : t = [100, 105, 118]
 ·have HF := Lib.hid (show decide (t ∈ breakNames) = true by rw [h2]; decide)
  have g2 : ((ba t).toList == [100, 105, 118]) = true := by rw [ba_toList, h2]; decide
  clear h0 h1 h2
  go_enter Tryz.func113, Tryz.ntmps113
  go_wp2
  go_ret
  exact ⟨by rw [HF.out]; rfl, rfl⟩
 have g2 : ((ba t).toList == [100, 105, 118]) = false := by rw [ba_toList]; simpa using h2
 by_cases h3 : t = [116, 114]
 ·have HF := Lib.hid (show decide (t ∈ breakNames) = true by rw [h3]; decide)
  have g3 : ((ba t).toList == [116, 114]) = true := by rw [ba_toList, h3]; decide
  clear h0 h1 h2 h3
  go_enter Tryz.func113, Tryz.ntmps113
  go_wp2
  go_ret
  exact ⟨by rw [HF.out]; rfl, rfl⟩
 have g3 : ((ba t).toList == [116, 114]) = false := by rw [ba_toList]; simpa using h3
 by_cases h4 : t = [108, 105]
 ·have HF := Lib.hid (show decide (t ∈ breakNames) = true by rw [h4]; decide)
  have g4 : ((ba t).toList == [108, 105]) = true := by rw [ba_toList, h4]; decide
  clear h0 h1 h2 h3 h4
  go_enter Tryz.func113, Tryz.ntmps113
  go_wp2
  go_ret
  exact ⟨by rw [HF.out]; rfl, rfl⟩
 have g4 : ((ba t).toList == [108, 105]) = false := by rw [ba_toList]; simpa using h4
 by_cases h5 : t = [104, 49]
 ·have HF := Lib.hid (show decide (t ∈ breakNames) = true by rw [h5]; decide)
  have g5 : ((ba t).toList == [104, 49]) = true := by rw [ba_toList, h5]; decide
  clear h0 h1 h2 h3 h4 h5
  go_enter Tryz.func113, Tryz.ntmps113
  go_wp2
  go_ret
  exact ⟨by rw [HF.out]; rfl, rfl⟩
 have g5 : ((ba t).toList == [104, 49]) = false := by rw [ba_toList]; simpa using h5
 by_cases h6 : t = [104, 50]
 ·have HF := Lib.hid (show decide (t ∈ breakNames) = true by rw [h6]; decide)
  have g6 : ((ba t).toList == [104, 50]) = true := by rw [ba_toList, h6]; decide
  clear h0 h1 h2 h3 h4 h5 h6
  go_enter Tryz.func113, Tryz.ntmps113
  go_wp2
  go_ret
  exact ⟨by rw [HF.out]; rfl, rfl⟩
 have g6 : ((ba t).toList == [104, 50]) = false := by rw [ba_toList]; simpa using h6
 by_cases h7 : t = [104, 51]
 ·have HF := Lib.hid (show decide (t ∈ breakNames) = true by rw [h7]; decide)
  have g7 : ((ba t).toList == [104, 51]) = true := by rw [ba_toList, h7]; decide
  clear h0 h1 h2 h3 h4 h5 h6 h7
  go_enter Tryz.func113, Tryz.ntmps113
  go_wp2
  go_ret
  exact ⟨by rw [HF.out]; rfl, rfl⟩
 have g7 : ((ba t).toList == [104, 51]) = false := by rw [ba_toList]; simpa using h7
 by_cases h8 : t = [104, 52]
 ·have HF := Lib.hid (show decide (t ∈ breakNames) = true by rw [h8]; decide)
  have g8 : ((ba t).toList == [104, 52]) = true := by rw [ba_toList, h8]; decide
  clear h0 h1 h2 h3 h4 h5 h6 h7 h8
  go_enter Tryz.func113, Tryz.ntmps113
  go_wp2
  go_ret
  exact ⟨by rw [HF.out]; rfl, rfl⟩
 have g8 : ((ba t).toList == [104, 52]) = false := by rw [ba_toList]; simpa using h8
 by_cases h9 : t = [104, 53]
 ·have HF := Lib.hid (show decide (t ∈ breakNames) = true by rw [h9]; decide)
  have g9 : ((ba t).toList == [104, 53]) = true := by rw [ba_toList, h9]; decide
  clear h0 h1 h2 h3 h4 h5 h6 h7 h8 h9
  go_enter Tryz.func113, Tryz.ntmps113
  go_wp2
  go_ret
  exact ⟨by rw [HF.out]; rfl, rfl⟩
 have g9 : ((ba t).toList == [104, 53]) = false := by rw [ba_toList]; simpa using h9
 by_cases h10 : t = [104, 54]
 ·have HF := Lib.hid (show decide (t ∈ breakNames) = true by rw [h10]; decide)
  have g10 : ((ba t).toList == [104, 54]) = true := by rw [ba_toList, h10]; decide
  clear h0 h1 h2 h3 h4 h5 h6 h7 h8 h9 h10
  go_enter Tryz.func113, Tryz.ntmps113
  go_wp2
  go_ret
  exact ⟨by rw [HF.out]; rfl, rfl⟩
 have g10 : ((ba t).toList == [104, 54]) = false := by rw [ba_toList]; simpa using h10
 have HF := Lib.hid (show decide (t ∈ breakNames) = false from decide_eq_false (by unfold breakNames; simp only [List.mem_cons, List.not_mem_nil, or_false, not_or]; exact ⟨h0, h1, h2, h3, h4, h5, h6, h7, h8, h9, h10⟩))
 clear h0 h1 h2 h3 h4 h5 h6 h7 h8 h9 h10
 go_enter Tryz.func113, Tryz.ntmps113
 go_wp2
 go_ret
 exact ⟨by rw [HF.out]; rfl, rfl⟩
theorem behind_any (m s : List UInt8) (w : World) (hs : s.length ≤ 1000000000) (hT : Tabs w) :
  Calls Tryz.prog 111 #[.string (ba s), .string (ba m)] w (StrB w (behindP m s)) := by
 obtain ⟨mx, hm⟩ := hT.max
 have HC := Lib.hid (Tryz.strings_Cut (ba s) (ba m) mx w (by rw [ba_size]; omega) hm)
 clear hm hT
 go_enter Tryz.func111, Tryz.ntmps111
 go_wp2_with fail
 refine HC.out.mono ?_
 rintro e w2 ⟨rfl, hw⟩
 obtain ⟨nn, rfl⟩ := hw
 go_wp2
 go_ret
 exact ⟨rfl, below_drewN (Below.refl _ _) _⟩
theorem tags_two (c d : UInt8) (r : List UInt8) {X Y : Int} (hX : (c.toNat : Int) = X) (hY : (d.toNat : Int) = Y) : tagsB (c :: d :: r) = (decide (X = 60) && (decide (Y = 47) || decide (Y = 33) || decide (Y = 63) || (signB d && decide (57 < Y)))) := by
 have e : ∀ (x y : UInt8) {Z : Int}, (x.toNat : Int) = Z → decide (x = y) = decide (Z = (y.toNat : Int)) := fun x y Z h => by
  rw [Bool.eq_iff_iff, decide_eq_true_iff, decide_eq_true_iff, ← h]
  exact ⟨fun h => by rw [h], fun h => UInt8.toNat_inj.1 (by omega)⟩
 have e2 : decide (57 < d) = decide (57 < Y) := by
  rw [Bool.eq_iff_iff, decide_eq_true_iff, decide_eq_true_iff, UInt8.lt_iff_toNat_lt, ← hY]
  show (57 : Nat) < _ ↔ _
  omega
 show (decide (c = 60) && (decide (d = 47) || decide (d = 33) || decide (d = 63) || (signB d && decide (57 < d)))) = _
 rw [e c 60 hX, e d 47 hY, e d 33 hY, e d 63 hY, e2]
 rfl
set_option maxRecDepth 100000 in
theorem tags_any (l : List UInt8) (w : World) (hl : l.length ≤ 1000000000) :
  Calls Tryz.prog 52 #[.string (ba l)] w fun e w' => e = .returned (.bool (tagsB l)) ∧ w' = w := by
 by_cases h2 : l.length < 2
 ·have HF := Lib.hid (show tagsB l = false by match l, h2 with | [], _ => rfl | [_], _ => rfl | _ :: _ :: _, h => simp at h; omega)
  obtain ⟨n, hn⟩ : ∃ n, l.length = n := ⟨_, rfl⟩
  have HL := Lib.hid hn
  obtain ⟨s, hs⟩ : ∃ s, ba l = s := ⟨_, rfl⟩
  have HS := Lib.hid hs
  have HZ := Lib.hid (show s.size = n by rw [← hs, ba_size, hn])
  have hsz : (s.size : Int) = n := by rw [HZ.out]
  rw [hs]
  rw [hn] at hl h2
  clear hs hn
  have g1 : decide ((1 : Int) < (n : Int)) = false := decide_eq_false (by omega)
  go_enter Tryz.func52, Tryz.ntmps52
  go_wp2
  go_ret
  exact ⟨by rw [HF.out]; rfl, rfl⟩
 ·obtain ⟨c, d, r, rfl⟩ : ∃ c d r, l = c :: d :: r := by match l, h2 with | [], h => exact absurd (by simp) h | [_], h => exact absurd (by simp) h | c :: d :: r, _ => exact ⟨c, d, r, rfl⟩
  obtain ⟨X, hX⟩ : ∃ x : Int, (c.toNat : Int) = x := ⟨_, rfl⟩
  obtain ⟨Y, hY⟩ : ∃ x : Int, (d.toNat : Int) = x := ⟨_, rfl⟩
  have HTT := Lib.hid (tags_two c d r hX hY)
  have HSI := Lib.hid (show ∀ W, Calls Tryz.prog 109 #[.int .u8 Y] W fun e w' => e = .returned (.bool (signB d)) ∧ w' = W from fun W => by rw [← hY]; exact sign_any d W)
  have hgi : ∃ (h0 : 0 < (ba (c :: d :: r)).size) (h1 : 1 < (ba (c :: d :: r)).size), (((ba (c :: d :: r))[0]'h0).toNat : Int) = X ∧ (((ba (c :: d :: r))[1]'h1).toNat : Int) = Y := ⟨by rw [ba_size]; simp, by rw [ba_size]; simp, hX, hY⟩
  obtain ⟨o, ho⟩ : ∃ o, tagsB (c :: d :: r) = o := ⟨_, rfl⟩
  rw [ho] at HTT ⊢
  clear ho hX hY
  obtain ⟨n, hn⟩ : ∃ n, (c :: d :: r).length = n := ⟨_, rfl⟩
  obtain ⟨s, hs⟩ : ∃ s, ba (c :: d :: r) = s := ⟨_, rfl⟩
  have hsz : (s.size : Int) = n := by rw [← hs, ba_size, hn]
  rw [hs] at hgi ⊢
  rw [hn] at h2 hl
  clear hs hn
  obtain ⟨h0, h1, hg0, hg1⟩ := hgi
  have g1 : decide ((1 : Int) < (n : Int)) = true := decide_eq_true (by omega)
  have h1i : (1 : Int) < (n : Int) := by omega
  by_cases e0 : X = 60
  ·have k0 : (X == 60) = true := by rw [e0]; rfl
   by_cases e1 : Y = 47
   ·have k1 : (Y == 47) = true := by rw [e1]; rfl
    have HF := Lib.hid (show o = true by rw [HTT.out]; simp [e0, e1])
    clear e0 e1
    go_enter Tryz.func52, Tryz.ntmps52
    go_wp2
    go_ret
    exact ⟨by rw [HF.out]; rfl, rfl⟩
   have k1 : (Y == 47) = false := by simpa using e1
   by_cases e2 : Y = 33
   ·have k2 : (Y == 33) = true := by rw [e2]; rfl
    have HF := Lib.hid (show o = true by rw [HTT.out]; simp [e0, e2])
    clear e0 e1 e2
    go_enter Tryz.func52, Tryz.ntmps52
    go_wp2
    go_ret
    exact ⟨by rw [HF.out]; rfl, rfl⟩
   have k2 : (Y == 33) = false := by simpa using e2
   by_cases e3 : Y = 63
   ·have k3 : (Y == 63) = true := by rw [e3]; rfl
    have HF := Lib.hid (show o = true by rw [HTT.out]; simp [e0, e3])
    clear e0 e1 e2 e3
    go_enter Tryz.func52, Tryz.ntmps52
    go_wp2
    go_ret
    exact ⟨by rw [HF.out]; rfl, rfl⟩
   have k3 : (Y == 63) = false := by simpa using e3
   have HF := Lib.hid (show o = (signB d && decide (57 < Y)) by rw [HTT.out]; simp [e0, e1, e2, e3])
   clear e0 e1 e2 e3 HTT
   cases hsg : signB d with
   | false =>
    rw [hsg] at HF
    simp only [hsg] at HSI
    clear hsg
    go_enter Tryz.func52, Tryz.ntmps52
    go_wp2_with fail
    refine (HSI.out _).mono ?_
    rintro e w2 ⟨rfl, rfl⟩
    go_wp2
    go_ret
    exact ⟨by rw [HF.out]; rfl, rfl⟩
   | true =>
    rw [hsg] at HF
    simp only [hsg] at HSI
    clear hsg
    obtain ⟨y, hy⟩ : ∃ y, decide (57 < Y) = y := ⟨_, rfl⟩
    rw [hy] at HF
    go_enter Tryz.func52, Tryz.ntmps52
    go_wp2_with fail
    refine (HSI.out _).mono ?_
    rintro e w2 ⟨rfl, rfl⟩
    go_wp2
    go_ret
    exact ⟨by rw [HF.out]; rfl, rfl⟩
  ·have k0 : (X == 60) = false := by simpa using e0
   have HF := Lib.hid (show o = false by rw [HTT.out]; simp [e0])
   clear e0
   go_enter Tryz.func52, Tryz.ntmps52
   go_wp2
   go_ret
   exact ⟨by rw [HF.out]; rfl, rfl⟩
def NmPost (w : World) (q : List UInt8 × Bool) (e : Ending) (w' : World) : Prop := e = .returned (.tuple #[.string (ba q.1), .bool q.2]) ∧ Below w.heap.size w w'
theorem nameTag_eq (t : List UInt8) : nameTag t = (smallP ((if ([47] : List UInt8).isPrefixOf t = true then t.drop 1 else t).takeWhile signB), ([47] : List UInt8).isPrefixOf t) := by
 unfold nameTag
 match t with
 | [] => rfl
 | c :: r =>
  by_cases h : c = 47
  ·subst h
   rfl
  ·have : ([47] : List UInt8).isPrefixOf (c :: r) = false := by
    simp [List.isPrefixOf]
    exact fun e => h e.symm
   rw [this]
   show (if c = 47 then _ else _) = _
   rw [if_neg h]
   rfl
theorem take_while {p : UInt8 → Bool} : ∀ {l : List UInt8} {k : Nat}, k ≤ l.length → (l.take k).all p = true → (∀ h : k < l.length, p l[k] = false) → l.takeWhile p = l.take k
 | [], k, _, _, _ => by simp
 | c :: r, 0, _, _, h => by
  have := h (by simp)
  rw [List.takeWhile_cons_of_neg (by simpa using this)]
  rfl
 | c :: r, k + 1, hk, ha, h => by
  simp only [List.take_succ_cons, List.all_cons, Bool.and_eq_true] at ha
  rw [List.takeWhile_cons_of_pos ha.1, List.take_succ_cons, take_while (by simpa using hk) ha.2 (fun h' => h (by simpa using h'))]
set_option maxRecDepth 100000 in
theorem named_any (c : UInt8) (t : List UInt8) (w : World) (hl : t.length ≤ 1000000000) :
  Calls Tryz.prog 112 #[.string (ba (c :: t))] w (NmPost w (nameTag t)) := by
 have hx1 : (ba (c :: t)).extract 1 (ba (c :: t)).size = ba t := ba_drop _ _
 have h1i : (1 : Int) ≤ ((ba (c :: t)).size : Int) := by rw [ba_size]; simp; omega
 have HX1 := Lib.hid hx1
 have HC := Lib.hid (show ∀ W, Calls Tryz.prog 110 #[.string (ba t), .string ⟨#[47]⟩] W fun e w' => e = .returned (.tuple #[.string (ba (if ([47] : List UInt8).isPrefixOf t = true then t.drop 1 else t)), .bool (([47] : List UInt8).isPrefixOf t)]) ∧ w' = W from fun W => cutpre_any [47] t W)
 have HN := Lib.hid (nameTag_eq t)
 obtain ⟨u, hu⟩ : ∃ u, (if ([47] : List UInt8).isPrefixOf t = true then t.drop 1 else t) = u := ⟨_, rfl⟩
 have hul : u.length ≤ 1000000000 := by rw [← hu]; split; (rw [List.length_drop]; omega); exact hl
 obtain ⟨en, hen⟩ : ∃ b, ([47] : List UInt8).isPrefixOf t = b := ⟨_, rfl⟩
 rw [hu, hen] at HN
 simp only [hu] at HC
 simp only [hen] at HC
 obtain ⟨S, hS⟩ : ∃ S, ba (c :: t) = S := ⟨_, rfl⟩
 rw [hS] at hx1 h1i ⊢
 clear hu hen hS HX1
 obtain ⟨n, hnu⟩ : ∃ n, u.length = n := ⟨_, rfl⟩
 have HLu := Lib.hid hnu
 obtain ⟨s, hsu⟩ : ∃ s, ba u = s := ⟨_, rfl⟩
 have HSu := Lib.hid hsu
 have HZu := Lib.hid (show s.size = n by rw [← hsu, ba_size, hnu])
 have hszu : (s.size : Int) = n := by rw [HZu.out]
 rw [hnu] at hul
 clear hsu hnu
 have HSM := Lib.hid (fun k W => dcsmall_any (u.take k) W (by rw [List.length_take, HLu.out]; omega))
 unfold StrB at HSM
 have HEX := Lib.hid (show ∀ k, s.extract 0 k = ba (u.take k) from fun k => by rw [← HSu.out, ba_cut, List.drop_zero])
 go_enter Tryz.func112, Tryz.ntmps112
 go_wp2_with fail
 refine (HC.out _).mono ?_
 rintro e w2 ⟨rfl, rfl⟩
 rw [HSu.out]
 go_wp2
 go_loop [6] (fun x => ∃ k : Nat, k ≤ n ∧ x = .int .i64 (k : Int) ∧ Hid ((u.take k).all signB = true)) (fun x => n - (intOf x).toNat)
 case atStart => exact ⟨0, Nat.zero_le _, rfl, Lib.hid rfl⟩
 case round =>
  obtain ⟨k, hk, rfl, HR⟩ := hrel
  have hki : (k : Int) ≤ (n : Int) := by omega
  have hk00 : (0 : Int) ≤ (k : Int) := by omega
  have hexk := HEX.out k
  have HXK := Lib.hid hexk
  by_cases hlt : k < n
  ·have hk2u : (k : Int) < (n : Int) := by omega
   have hk0u : (0 : Int) ≤ (k : Int) := by omega
   have hksu : k < s.size := by rw [HZu.out]; omega
   have hklu : k < u.length := by rw [HLu.out]; omega
   have hgetu : s[k] = u[k] := by
    have h := HSu.out
    subst h
    rfl
   have HST := Lib.hid (fun (h : signB (u[k]) = false) => take_while (p := signB) (by omega) HR.out (fun _ => h))
   have HSN := Lib.hid (fun (h : signB (u[k]) = true) => (show (u.take (k + 1)).all signB = true by rw [List.take_succ_eq_append_getElem hklu, List.all_append, HR.out]; simpa using h))
   obtain ⟨d, hcu⟩ : ∃ c, u[k] = c := ⟨_, rfl⟩
   rw [hcu] at hgetu HST HSN
   obtain ⟨X, hxu⟩ : ∃ x : Int, (d.toNat : Int) = x := ⟨_, rfl⟩
   have hgiu : ((s[k]).toNat : Int) = X := by rw [hgetu]; exact hxu
   have HXu := Lib.hid hxu
   have hx0u : 0 ≤ X := by omega
   have hx1u : X ≤ 255 := by have := d.toNat_lt; omega
   clear hcu hklu hgetu hxu
   have HSI := Lib.hid (show ∀ W, Calls Tryz.prog 109 #[.int .u8 X] W fun e w' => e = .returned (.bool (signB d)) ∧ w' = W from fun W => by rw [← HXu.out]; exact sign_any d W)
   cases hsg : signB d with
   | true =>
    simp only [hsg] at HSI
    have HNX := Lib.hid (HSN.out hsg)
    clear hsg HST HSN hexk
    go_wp2_with fail
    refine (HSI.out _).mono ?_
    rintro e w2 ⟨rfl, hw⟩
    have hw2 := hw.symm
    subst hw2
    clear hw
    go_wp2
    go_round
    case rel => exact ⟨k + 1, by omega, by go_num, HNX⟩
    case measure => simp [intOf] <;> omega
   | false =>
    simp only [hsg] at HSI
    have HF := Lib.hid (show nameTag t = (smallP (u.take k), en) by rw [HN.out, HST.out hsg])
    clear hsg HST HSN
    go_wp2_with fail
    refine (HSI.out _).mono ?_
    rintro e w2 ⟨rfl, hw⟩
    have hw2 := hw.symm
    subst hw2
    clear hw
    go_wp2_with fail
    refine (HSM.out k _).mono ?_
    rintro e w3 ⟨rfl, hb3⟩
    have HB3 := Lib.hid hb3
    clear hb3
    go_wp2
    go_ret2
    unfold NmPost
    rw [HF.out]
    exact ⟨rfl, HB3.out⟩
  ·obtain rfl : k = n := by omega
   have HF := Lib.hid (show nameTag t = (smallP (u.take k), en) by rw [HN.out, take_while (p := signB) (by rw [HLu.out]; exact Nat.le_refl _) HR.out (fun h => absurd h (by rw [HLu.out]; omega))])
   go_wp2_with fail
   refine (HSM.out k _).mono ?_
   rintro e w3 ⟨rfl, hb3⟩
   have HB3 := Lib.hid hb3
   clear hb3
   go_wp2
   go_ret2
   unfold NmPost
   rw [HF.out]
   exact ⟨rfl, HB3.out⟩
end Go.Proofs.YthidbmeaccpjdaaGreatDoor
