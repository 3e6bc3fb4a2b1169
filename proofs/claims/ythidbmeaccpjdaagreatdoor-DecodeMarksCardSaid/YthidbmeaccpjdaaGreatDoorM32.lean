/- Layer 15: the contract of Text (printed by gen_decg. Layer 6, plain: the lines of a text that is written quoted-printable. Layer 6: the contract of B64 (base64). Layer 14: lines and bodies: their contracts. -/
import Derived.Test.YthidbmeaccpjdaaGreatDoorM31
import Derived.Test.YthidbmeaccpjdaaGreatDoorM29
import Derived.Test.YthidbmeaccpjdaaGreatDoorM30
import Derived.Test.YthidbmeaccpjdaaGreatDoorM04
import Derived.Test.YthidbmeaccpjdaaGreatDoorM09
namespace Go.Proofs.YthidbmeaccpjdaaGreatDoor
open Go.RowKit
set_option linter.unusedVariables false
set_option maxHeartbeats 4000000
theorem lfA_eq : ∀ (n : Nat) (l : List UInt8), l.length ≤ n → repA [13, 10] [10] l = lfP l
 | _, [], _ => repA_nil (by simp)
 | n, [c], _ => by
  rw [repA_skip (by simp), repA_nil (by simp)]
  ·rfl
  ·cases ho : Lib.occAt [c] [13, 10] 0 with
   | false => rfl
   | true =>
    have := Lib.occAt_room ho
    simp at this
 | 0, c :: d :: r, h => by simp at h
 | n + 1, c :: d :: r, h => by
  have h1 : r.length ≤ n := by simp at h; omega
  have h2 : (d :: r).length ≤ n := by simp at h ⊢; omega
  by_cases he : c = 13 ∧ d = 10
  ·obtain ⟨rfl, rfl⟩ := he
   have h3 := repA_hit (old := [13, 10]) (new := [10]) (s := r) (by simp)
   simp only [List.cons_append, List.nil_append] at h3
   rw [h3, lfA_eq n r h1]
   rfl
  ·rw [repA_skip (by simp), lfA_eq n (d :: r) h2]
   ·show _ = (if c = 13 ∧ d = 10 then 10 :: lfP r else c :: lfP (d :: r))
    rw [if_neg he]
   ·cases ho : Lib.occAt (c :: d :: r) [13, 10] 0 with
    | false => rfl
    | true =>
     rw [Lib.occAt_iff_take _ _ _ (by simp)] at ho
     simp at ho
     exact absurd ho he
theorem lf_any (l : List UInt8) (w : World) (hl : l.length ≤ 1000000000) (hT : Tabs w) :
  Calls Tryz.prog 44 #[.string (ba l), .string ⟨#[13, 10]⟩, .string ⟨#[10]⟩] w (StrB w (lfP l)) := by
 obtain ⟨m, hm⟩ := hT.max
 refine (Tryz.strings_ReplaceAll (ba l) ⟨#[13, 10]⟩ ⟨#[10]⟩ m w (by rw [ba_size]; omega) hm (by decide) (by rw [ba_size]; have := Lib.count_le l [13, 10]; show l.length + Lib.count l [13, 10] * 1 ≤ _; omega)).mono ?_
 rintro e w' ⟨rfl, hb⟩
 refine ⟨?_, hb⟩
 have e1 : Lib.replaceAll (ba l).data.toList (⟨#[13, 10]⟩ : ByteArray).data.toList (⟨#[10]⟩ : ByteArray).data.toList = lfP l := by
  rw [ba_list]
  exact (replaceAll_eq (by decide) l).trans (lfA_eq _ l (Nat.le_refl _))
 rw [e1]
 rfl
theorem stripF_len : ∀ (f : Nat) (l : List UInt8), (stripF f l).length ≤ 4 * l.length
 | 0, l => Nat.zero_le _
 | f + 1, [] => Nat.zero_le _
 | f + 1, c :: r => by
  have h1 := tag_rest c r
  have i1 := stripF_len f (tagP (c :: r)).2
  have i2 := stripF_len f r
  unfold stripF
  split
  ·rw [List.length_append, List.length_cons]; omega
  ·split
   ·split
    ·rename_i q hq
     have h2 := ent_rest (a := q.1) (b := q.2) hq
     have i3 := stripF_len f q.2
     rw [List.length_append, List.length_cons]; omega
    ·rw [List.length_cons, List.length_cons]; omega
   ·rw [List.length_cons, List.length_cons]; omega
theorem strip_len (l : List UInt8) : (stripP l).length ≤ 4 * l.length := stripF_len _ l
def setT (set B : List UInt8) : List UInt8 := if set ≠ [] then decodeSet set B else repairP B
def textG (K S set B : List UInt8) : List UInt8 := if K ≠ wText then [] else lfP (if S = wHtml then stripP (setT set B) else setT set B)
theorem textOf_eq (s : List UInt8) (p : Prt) : textOf s p = textG p.typ.kind p.typ.sub ((paramT p.typ.params wCharset).getD []) (bytesP s p) := rfl
theorem textG_not {K S set B : List UInt8} (h : K ≠ wText) : textG K S set B = [] := if_pos h
theorem textG_html {K S set B t : List UInt8} (h : K = wText) (h2 : S = wHtml) (h3 : setT set B = t) : textG K S set B = lfP (stripP t) := by subst h3; unfold textG; rw [if_neg (by simp [h]), if_pos h2]
theorem textG_plain {K S set B t : List UInt8} (h : K = wText) (h2 : S ≠ wHtml) (h3 : setT set B = t) : textG K S set B = lfP t := by subst h3; unfold textG; rw [if_neg (by simp [h]), if_neg h2]
theorem setT_len (set B : List UInt8) : (setT set B).length ≤ 4 * B.length := by
 unfold setT
 split
 ·exact decodeSet_len _ _
 ·exact repair_len _
set_option maxRecDepth 100000 in
theorem text_any (s : List UInt8) (p : Prt) (A : Option Addr) (n c : Nat) (w : World) (hs : s.length ≤ 10000000) (hP : Pars w w.heap.size A n p.typ.params) (hn : p.typ.params.length ≤ 1000000000) (hp1 : ∀ q ∈ p.typ.params, q.1.length ≤ 1000000000) (hp2 : ∀ q ∈ p.typ.params, q.2.length ≤ 2570000000) (hT : Tabs w) (hE : EntM w) :
  Calls Tryz.prog 15 #[.string (ba s), prtV p A n c] w (StrB w (textOf s p)) := by
 rw [textOf_eq]
 have HT := Lib.hid hT
 have HE := Lib.hid hE
 have hbl : (bytesP s p).length ≤ 10000000 := Nat.le_trans (bytesP_len s p) hs
 have HBY := Lib.hid (fun W (hW : Below w.heap.size w W) => bytes_any s p A n c W (by omega) (HT.out.below hW))
 have hsl : ((paramT p.typ.params wCharset).getD []).length ≤ 2570000000 := paramT_lenN hp2
 have HPA := Lib.hid (fun W (hW : Below w.heap.size w W) => param_any p.typ.params wCharset A n c W ((hP.below hW).more hW.size) (by rw [← hP.len]; exact hn) hp1 (by decide))
 obtain ⟨oo, hoo⟩ : ∃ o, paramT p.typ.params wCharset = o := ⟨_, rfl⟩
 rw [hoo] at hsl ⊢
 simp only [hoo] at HPA
 clear hoo hP hn hp1 hp2
 unfold ParPost at HPA
 obtain ⟨set, hset⟩ : ∃ b, oo.getD [] = b := ⟨_, rfl⟩
 obtain ⟨ok, hok⟩ : ∃ b, oo.isSome = b := ⟨_, rfl⟩
 rw [hset] at hsl ⊢
 simp only [hset, hok] at HPA
 clear hset hok
 obtain ⟨B, hB⟩ : ∃ b, bytesP s p = b := ⟨_, rfl⟩
 rw [hB] at hbl ⊢
 simp only [hB] at HBY
 clear hB
 obtain ⟨p0, p1, p2, p3, p4, ⟨p5, p6, p7⟩, p8⟩ := p
 unfold prtV at HBY ⊢
 unfold StrB at HBY
 dsimp only at HBY HPA ⊢
 have hul := setT_len set B
 have HNT := Lib.hid (fun h => textG_not (K := p5) (S := p6) (set := set) (B := B) h)
 have HHT := Lib.hid (fun h h2 t h3 => textG_html (K := p5) (S := p6) (set := set) (B := B) (t := t) h h2 h3)
 have HPT := Lib.hid (fun h h2 t h3 => textG_plain (K := p5) (S := p6) (set := set) (B := B) (t := t) h h2 h3)
 obtain ⟨R, hR⟩ : ∃ R, textG p5 p6 set B = R := ⟨_, rfl⟩
 rw [hR]
 simp only [hR] at HNT HHT HPT
 clear hR
 have HDE := Lib.hid (show set ≠ [] → setT set B = decodeSet set B from fun h => if_pos h)
 have HRE := Lib.hid (show set = [] → setT set B = repairP B from fun h => if_neg (by simp [h]))
 obtain ⟨u, hu⟩ : ∃ u, setT set B = u := ⟨_, rfl⟩
 rw [hu] at hul
 simp only [hu] at HHT HPT HDE HRE
 clear hu
 have HST := Lib.hid (fun W (hW : Below w.heap.size w W) => strip_any u W (by omega) (HT.out.below hW) (HE.out.below hW))
 have hvl := strip_len u
 have HL1 := Lib.hid (fun W (hW : Below w.heap.size w W) => lf_any (stripP u) W (by omega) (HT.out.below hW))
 have HL2 := Lib.hid (fun W (hW : Below w.heap.size w W) => lf_any u W (by omega) (HT.out.below hW))
 have HDC := Lib.hid (fun W (hW : Below w.heap.size w W) => decode_big set B W (by omega) (by omega) (HT.out.below hW))
 have HRP := Lib.hid (fun W (hW : Below w.heap.size w W) => repair_any B W (by omega) (HT.out.below hW))
 unfold StrB at HST HL1 HL2 HRP
 unfold DecPost at HDC
 have HBW := Lib.hid (show Below w.heap.size w (w.alloc (.cells #[.int .i64 p0, .int .i64 p1, .int .i64 p2, .int .i64 p3, .int .i64 p4, .string (ba p5), .string (ba p6), .slice A n c, .string (ba p8)] 26)) from (Below.refl _ _).alloc (Nat.le_refl _) _)
 have hbx := (MapKept.heap_alloc w (.cells #[.int .i64 p0, .int .i64 p1, .int .i64 p2, .int .i64 p3, .int .i64 p4, .string (ba p5), .string (ba p6), .slice A n c, .string (ba p8)] 26)).1
 have HBX := Lib.hid hbx
 have b0 := cells_at hbx 0 (u := .int .i64 p0) rfl
 have b1 := cells_at hbx 1 (u := .int .i64 p1) rfl
 have b2 := cells_at hbx 2 (u := .int .i64 p2) rfl
 have b3 := cells_at hbx 3 (u := .int .i64 p3) rfl
 have b4 := cells_at hbx 4 (u := .int .i64 p4) rfl
 have b5 := cells_at hbx 5 (u := .string (ba p5)) rfl
 have b6 := cells_at hbx 6 (u := .string (ba p6)) rfl
 have b7 := cells_at hbx 7 (u := .slice A n c) rfl
 have b8 := cells_at hbx 8 (u := .string (ba p8)) rfl
 clear hbx hT hE hbl hsl hul hvl hs
 by_cases hK : p5 = wText
 ·have gK : ((ba p5).toList == [116, 101, 120, 116]) = true := by rw [ba_toList, hK]; rfl
  have gK2 : ((ba p5).toList != [116, 101, 120, 116]) = false := by rw [ba_toList, hK]; rfl
  have HK := Lib.hid hK
  clear hK
  go_enter Tryz.func15, Tryz.ntmps15
  go_wp2_with fail
  refine (HBY.out _ HBW.out).mono ?_
  rintro e w2 ⟨rfl, hb2⟩
  have HX2 := Lib.hid ((hb2.block _ (heap_lt HBX.out)).trans HBX.out)
  have HB2 := Lib.hid (HBW.out.trans (hb2.mono HBW.out.size))
  have c7 := cells_at HX2.out 7 (u := .slice A n c) rfl
  clear hb2 b0 b1 b2 b3 b4 b5 b6 b7 b8
  go_wp2_with fail
  refine (HPA.out _ HB2.out).mono ?_
  rintro e w3 ⟨rfl, hb3⟩
  have HX3 := Lib.hid ((hb3.block _ (heap_lt HX2.out)).trans HX2.out)
  have HB3 := Lib.hid (HB2.out.trans (hb3.mono HB2.out.size))
  clear hb3 c7
  by_cases h0 : set = []
  ·have g0 : (ba set).toList.isEmpty = true := by rw [ba_toList, h0]; rfl
   have g1 : ((ba set).toList != []) = false := by rw [ba_toList, h0]; rfl
   have HU := Lib.hid (HRE.out h0)
   clear h0
   go_wp2_with fail
   refine (HRP.out _ HB3.out).mono ?_
   rintro e w4 ⟨rfl, hb4⟩
   have HX4 := Lib.hid ((hb4.block _ (heap_lt HX3.out)).trans HX3.out)
   have HB4 := Lib.hid (HB3.out.trans (hb4.mono HB3.out.size))
   have c6 := cells_at HX4.out 6 (u := .string (ba p6)) rfl
   clear hb4
   rw [← HU.out]
   by_cases hS : p6 = wHtml
   ·have gS : ((ba p6).toList == [104, 116, 109, 108]) = true := by rw [ba_toList, hS]; rfl
    have HV := Lib.hid (HHT.out HK.out hS _ rfl)
    clear hS
    go_wp2_with fail
    refine (HST.out _ HB4.out).mono ?_
    rintro e w5 ⟨rfl, hb5⟩
    have HB5 := Lib.hid (HB4.out.trans (hb5.mono HB4.out.size))
    clear hb5
    go_wp2_with fail
    refine (HL1.out _ HB5.out).mono ?_
    rintro e w6 ⟨rfl, hb6⟩
    have HB6 := Lib.hid (HB5.out.trans (hb6.mono HB5.out.size))
    clear hb6
    go_wp2
    go_ret
    exact ⟨by rw [HV.out]; rfl, HB6.out⟩
   ·have gS : ((ba p6).toList == [104, 116, 109, 108]) = false := by rw [ba_toList]; show (p6 == wHtml) = false; simpa using hS
    have HV := Lib.hid (HPT.out HK.out hS _ rfl)
    clear hS
    go_wp2_with fail
    refine (HL2.out _ HB4.out).mono ?_
    rintro e w6 ⟨rfl, hb6⟩
    have HB6 := Lib.hid (HB4.out.trans (hb6.mono HB4.out.size))
    clear hb6
    go_wp2
    go_ret
    exact ⟨by rw [HV.out]; rfl, HB6.out⟩
  ·have g0 : (ba set).toList.isEmpty = false := by rw [ba_toList]; simpa using h0
   have g1 : ((ba set).toList != []) = true := by rw [ba_toList]; simpa using h0
   have HU := Lib.hid (HDE.out h0)
   clear h0
   go_wp2_with fail
   refine (HDC.out _ HB3.out).mono ?_
   rintro e w4 ⟨rfl, hb4⟩
   have HX4 := Lib.hid ((hb4.block _ (heap_lt HX3.out)).trans HX3.out)
   have HB4 := Lib.hid (HB3.out.trans (hb4.mono HB3.out.size))
   have c6 := cells_at HX4.out 6 (u := .string (ba p6)) rfl
   clear hb4
   rw [← HU.out]
   by_cases hS : p6 = wHtml
   ·have gS : ((ba p6).toList == [104, 116, 109, 108]) = true := by rw [ba_toList, hS]; rfl
    have HV := Lib.hid (HHT.out HK.out hS _ rfl)
    clear hS
    go_wp2_with fail
    refine (HST.out _ HB4.out).mono ?_
    rintro e w5 ⟨rfl, hb5⟩
    have HB5 := Lib.hid (HB4.out.trans (hb5.mono HB4.out.size))
    clear hb5
    go_wp2_with fail
    refine (HL1.out _ HB5.out).mono ?_
    rintro e w6 ⟨rfl, hb6⟩
    have HB6 := Lib.hid (HB5.out.trans (hb6.mono HB5.out.size))
    clear hb6
    go_wp2
    go_ret
    exact ⟨by rw [HV.out]; rfl, HB6.out⟩
   ·have gS : ((ba p6).toList == [104, 116, 109, 108]) = false := by rw [ba_toList]; show (p6 == wHtml) = false; simpa using hS
    have HV := Lib.hid (HPT.out HK.out hS _ rfl)
    clear hS
    go_wp2_with fail
    refine (HL2.out _ HB4.out).mono ?_
    rintro e w6 ⟨rfl, hb6⟩
    have HB6 := Lib.hid (HB4.out.trans (hb6.mono HB4.out.size))
    clear hb6
    go_wp2
    go_ret
    exact ⟨by rw [HV.out]; rfl, HB6.out⟩
 ·have gK : ((ba p5).toList == [116, 101, 120, 116]) = false := by rw [ba_toList]; show (p5 == wText) = false; simpa using hK
  have gK2 : ((ba p5).toList != [116, 101, 120, 116]) = true := by rw [ba_toList]; show (p5 != wText) = true; simpa using hK
  have HV := Lib.hid (HNT.out hK)
  clear hK
  go_enter Tryz.func15, Tryz.ntmps15
  go_wp2
  go_ret
  exact ⟨by rw [HV.out]; rfl, HBW.out⟩
theorem crlf_index : ∀ l : List UInt8, Lib.index l [13, 10] = match crlfCut l with
  | some q => (q.1.length : Int)
  | none => -1
 | [] => rfl
 | [c] => by
  unfold Lib.index
  rw [if_neg (by simp)]
  rfl
 | c :: d :: r => by
  have ih := crlf_index (d :: r)
  unfold Lib.index crlfCut
  by_cases h : c = 13 ∧ d = 10
  ·rw [if_pos (by simp [h.1, h.2]), if_pos h]
   rfl
  ·rw [if_neg (by simp; exact fun h1 h2 => h ⟨h1.symm, h2.symm⟩), if_neg h, ih]
   cases hc : crlfCut (d :: r) with
   | none => rfl
   | some q =>
    show (if ((q.1.length : Int) == -1) = true then (-1 : Int) else (q.1.length : Int) + 1) = _
    rw [if_neg (by simp)]
    show _ = (((c :: q.1).length : Nat) : Int)
    simp
def crlfV (l : List UInt8) : List UInt8 × List UInt8 × Bool := match crlfCut l with
 | some q => (q.1, q.2, true)
 | none => (l, [], false)
theorem crlf_cutV (l : List UInt8) : Lib.cut l [13, 10] = crlfV l := by
 unfold Lib.cut crlfV
 rw [crlf_index]
 cases h : crlfCut l with
 | none => rfl
 | some q =>
  have h2 := crlfCut_some (a := q.1) (b := q.2) h
  dsimp only
  rw [if_pos (Int.natCast_nonneg _), Int.toNat_natCast]
  conv => lhs; rw [h2]
  rw [show q.1 ++ 13 :: 10 :: q.2 = q.1 ++ ([13, 10] ++ q.2) by simp, List.take_left, show q.1.length + ([13, 10] : List UInt8).length = (q.1 ++ [13, 10]).length by simp, ← List.append_assoc, List.drop_left]
def CrlfPost (w : World) (l : List UInt8) (e : Ending) (w' : World) : Prop := e = .returned (.tuple #[.string (ba (crlfV l).1), .string (ba (crlfV l).2.1), .bool (crlfV l).2.2]) ∧ ∃ n, w' = w.drewN n
theorem crlfcut_any (l : List UInt8) (w : World) (hl : l.length ≤ 1000000000) (hT : Tabs w) :
  Calls Tryz.prog 82 #[.string (ba l), .string ⟨#[13, 10]⟩] w (CrlfPost w l) := by
 obtain ⟨m, hm⟩ := hT.max
 refine (Tryz.strings_Cut (ba l) ⟨#[13, 10]⟩ m w (by rw [ba_size]; omega) hm).mono ?_
 rintro e w' ⟨rfl, hw⟩
 refine ⟨?_, hw⟩
 have e1 : Lib.cut (ba l).data.toList (⟨#[13, 10]⟩ : ByteArray).data.toList = crlfV l := by rw [ba_list]; exact crlf_cutV l
 rw [e1]
 rfl
theorem qpL_cons {n : Nat} {c : UInt8} {r P : List UInt8} (h : qpPiece c r.isEmpty = P) : qpL n (c :: r) = if 76 ≤ n + P.length then [61, 13, 10] ++ (P ++ qpL P.length r) else P ++ qpL (n + P.length) r := by
 subst h
 conv => lhs; unfold qpL
theorem qpPiece_len (c : UInt8) (b : Bool) : 1 ≤ (qpPiece c b).length ∧ (qpPiece c b).length ≤ 3 := by
 unfold qpPiece
 split
 ·exact ⟨Nat.le_refl _, by simp⟩
 ·exact ⟨by show 1 ≤ 3; omega, Nat.le_refl _⟩
theorem qpF_fuel : ∀ (f g : Nat) (l : List UInt8), l.length ≤ f → l.length ≤ g → qpF f l = qpF g l
 | 0, 0, _, _, _ => rfl
 | 0, g + 1, l, h, _ => by
  have : l = [] := List.eq_nil_of_length_eq_zero (by omega)
  subst this
  rfl
 | f + 1, 0, l, _, h => by
  have : l = [] := List.eq_nil_of_length_eq_zero (by omega)
  subst this
  rfl
 | f + 1, g + 1, l, h1, h2 => by
  unfold qpF
  cases hc : crlfCut l with
  | none => rfl
  | some q =>
   have h3 := congrArg List.length (crlfCut_some (a := q.1) (b := q.2) hc)
   simp only [List.length_append, List.length_cons] at h3
   dsimp only
   rw [qpF_fuel f g q.2 (by omega) (by omega)]
theorem qpP_last {l : List UInt8} (h : crlfCut l = none) : qpP l = qpL 0 l := by
 unfold qpP
 cases l with
 | nil => rfl
 | cons c r =>
  rw [List.length_cons]
  unfold qpF
  rw [h]
theorem qpP_more {l a b : List UInt8} (h : crlfCut l = some (a, b)) : qpP l = qpL 0 a ++ ([13, 10] ++ qpP b) := by
 have h3 := congrArg List.length (crlfCut_some h)
 simp only [List.length_append, List.length_cons] at h3
 unfold qpP
 cases l with
 | nil => cases h
 | cons c r =>
  rw [List.length_cons] at h3 ⊢
  conv => lhs; unfold qpF
  rw [h]
  dsimp only
  rw [qpF_fuel r.length b.length b (by omega) (Nat.le_refl _)]
theorem Wrote.boxI {w w' : World} {B b k : Nat} {l : List UInt8} {cs : Array Value} (h : Wrote w B b l w') (hk : w.heap[k]? = some (.cells cs 3 (0, 0))) (hne : k ≠ b) : w'.heap[k]? = some (.cells cs 3 (0, 0)) :=
 h.oth k _ hk (by simpa using hne) (fun c fz e => by injection e with _ e; exact absurd e (by decide))
theorem Wrote.boxA {w w' : World} {B b k : Nat} {l : List UInt8} {cs : Array Value} (h : Wrote w B b l w') (hk : w.heap[k]? = some (.cells cs 122 (0, 0))) (hne : k ≠ b) : w'.heap[k]? = some (.cells cs 122 (0, 0)) :=
 h.oth k _ hk (by simpa using hne) (fun c fz e => by injection e with _ e; exact absurd e (by decide))
theorem bat_set {w : World} {T e S : TypeId} {B b k i : Nat} {p v : Value} {bs : List Value} {cs : Array Value} {fr : Nat × Nat} (h : Lib.BuilderAtF T e B b p bs w) (hk : w.heap[k]? = some (.cells cs S fr)) (hS : S ≠ e) (hne : k ≠ b) : Lib.BuilderAtF T e B b p bs (w.setCell ⟨k, i, none⟩ v) := by
 obtain ⟨hB, u, hb, hown, hn⟩ := h
 have ho : ∀ q, q ≠ k → (w.setCell ⟨k, i, none⟩ v).heap[q]? = w.heap[q]? := fun q hq => Go.RowKit.Below.heap_setCell _ _ _ _ hq
 refine ⟨hB, u, (ho b (Ne.symm hne)).trans hb, ⟨hown.1, ?_⟩, hn⟩
 rcases hown.2 with hz | ⟨g, cap, cur, fz, hv, hbg, hg, rest⟩
 ·exact .inl hz
 ·have hkg : g ≠ k := by
   rintro rfl
   rw [hk] at hg
   injection hg with hg
   injection hg with _ hg
   exact hS hg
  exact .inr ⟨g, cap, cur, fz, hv, hbg, (ho g hkg).trans hg, rest⟩
theorem Bld.set {w : World} {S : TypeId} {B b k i : Nat} {v : Value} {l : List UInt8} {cs : Array Value} {fr : Nat × Nat} (h : Bld w B b l) (hk : w.heap[k]? = some (.cells cs S fr)) (hS : S ≠ 5) (hne : k ≠ b) : Bld (w.setCell ⟨k, i, none⟩ v) B b l :=
 h.elim (fun x => .inl (bat_set x hk hS hne)) (fun x => .inr (bat_set x hk hS hne))
structure PutSt (N : Nat) (acc : List UInt8) (k : Nat) (w : World) : Prop where
 bld : Bld w N N acc
 box : w.heap[N + 1]? = some (.cells #[.int .i64 (k : Int)] 3 (0, 0))
def PutPost (N : Nat) (acc : List UInt8) (k : Nat) (w : World) (e : Ending) (w' : World) : Prop := ∃ v, e = .returned v ∧ PutSt N acc k w' ∧ Below N w w' ∧ ∀ b cs, b ≠ N → b ≠ N + 1 → w.heap[b]? = some (.cells cs 122 (0, 0)) → w'.heap[b]? = some (.cells cs 122 (0, 0))
set_option maxRecDepth 100000 in
theorem put_any (N k : Nat) (acc tl : List UInt8) (c : UInt8) (w : World) (h : PutSt N acc k w) (hl : acc.length ≤ 10000000000) (hkl : k ≤ 10000000000) (htl : (if (k + 1) % 76 = 0 then [13, 10] else []) = tl) :
  Calls Tryz.prog 126 #[.int .u8 (c.toNat : Int), .pointer (some ⟨N, 0, none⟩), .pointer (some ⟨N + 1, 0, none⟩)] w (PutPost N (acc ++ c :: tl) (k + 1) w) := by
 have hNw : N + 1 < w.heap.size := heap_lt h.box
 have HW1 := Lib.hid (write_byte N N acc c w h.bld (by omega) (by omega))
 have HBX := Lib.hid h.box
 have HTL := Lib.hid htl
 obtain ⟨x, hx⟩ : ∃ x : Int, (c.toNat : Int) = x := ⟨_, rfl⟩
 rw [hx] at HW1 ⊢
 clear h hx htl
 go_enter Tryz.func126, Tryz.ntmps126
 go_wp2_with fail
 refine HW1.out.mono ?_
 rintro e w2 ⟨rfl, hW⟩
 have hbx := hW.boxI HBX.out (by omega)
 have HBX2 := Lib.hid hbx
 have HB2 := Lib.hid hW.bld
 have HBE := Lib.hid hW.bel
 have HAR := Lib.hid (show ∀ b cs, b ≠ N → b ≠ N + 1 → w.heap[b]? = some (.cells cs 122 (0, 0)) → w2.heap[b]? = some (.cells cs 122 (0, 0)) from fun b cs h1 _ h => hW.boxA h h1)
 have c0 := cells_at hbx 0 (u := .int .i64 (k : Int)) rfl
 have f0 := cells_free hbx 0
 have hki : (k : Int) ≤ 10000000000 := by omega
 have hk0 : (0 : Int) ≤ (k : Int) := by omega
 have hz2 : N + 1 < w2.heap.size := heap_lt hbx
 clear hW hbx
 obtain ⟨W3, hW3⟩ : ∃ W, w2.setCell ⟨N + 1, 0, none⟩ (.int .i64 ((k : Int) + 1)) = W := ⟨_, rfl⟩
 have HS3 := Lib.hid (show PutSt N (acc ++ [c]) (k + 1) W3 from ⟨by rw [← hW3]; exact HB2.out.set HBX2.out (by decide) (by omega), by rw [← hW3]; have h := Lib.heap_setCell_same (i := 0) HBX2.out (.int .i64 ((k : Int) + 1)); exact h⟩)
 have HB3 := Lib.hid (show Below N w W3 by rw [← hW3]; exact HBE.out.setCell (Nat.le_succ _) _)
 have HA3 := Lib.hid (show ∀ b cs, b ≠ N → b ≠ N + 1 → w.heap[b]? = some (.cells cs 122 (0, 0)) → W3.heap[b]? = some (.cells cs 122 (0, 0)) from fun b cs h1 h2 h => by
  rw [← hW3]
  exact (Go.RowKit.Below.heap_setCell _ _ _ _ h2).trans (HAR.out b cs h1 h2 h))
 have c3 := cells_at HS3.out.box 0 (u := .int .i64 ((k : Int) + 1)) rfl
 by_cases hm : (k + 1) % 76 = 0
 ·have HV := Lib.hid (show tl = [13, 10] by rw [← HTL.out, if_pos hm])
  have hmi : (((k : Int) + 1) % 76 == 0) = true := by simp; omega
  clear hm
  have HW2 := Lib.hid (show Calls Tryz.prog 54 #[.pointer (some ⟨N, 0, none⟩), .string ⟨#[13, 10]⟩] W3 (WrotePost W3 N N ((acc ++ [c]) ++ [13, 10]) (.tuple #[.int .i64 2, .nilIface])) from write_string N N (acc ++ [c]) [13, 10] W3 HS3.out.bld (by simp; omega) (by have := HB3.out.size; omega))
  go_wp2_with fail
  refine HW2.out.mono ?_
  rintro e v4 ⟨rfl, hW⟩
  have HF := Lib.hid (show PutPost N (acc ++ c :: tl) (k + 1) w (.returned (.tuple #[])) v4 from ⟨_, rfl, ⟨by rw [HV.out]; have h := hW.bld; simpa using h, hW.boxI HS3.out.box (by omega)⟩, HB3.out.trans hW.bel, fun b cs h1 h2 h => hW.boxA (HA3.out b cs h1 h2 h) h1⟩)
  clear hW
  go_wp2
  go_end0
  exact HF.out
 ·have HV := Lib.hid (show tl = [] by rw [← HTL.out, if_neg hm])
  have hmi : (((k : Int) + 1) % 76 == 0) = false := by simp; omega
  clear hm
  go_wp2
  go_end0
  exact ⟨_, rfl, ⟨by rw [HV.out]; exact HS3.out.bld, HS3.out.box⟩, HB3.out, HA3.out⟩
end Go.Proofs.YthidbmeaccpjdaaGreatDoor
section
namespace Go.Proofs.YthidbmeaccpjdaaGreatDoor
open Go.RowKit
set_option linter.unusedVariables false
open Go.Shelf
attribute [local go_sem] Oper.semAt_some
def bodG (s b : List UInt8) : List (Nat × Nat) → Option Nat → List (Nat × Nat)
 | [], none => []
 | [], some o => [(o, s.length)]
 | x :: r, o => if (bndP ((s.take x.2).drop x.1) b).1 = true then
   (match o with
    | some y => [(y, aheadP s y x.1)]
    | none => []) ++ if (bndP ((s.take x.2).drop x.1) b).2 = true then [] else bodG s b r (some x.2)
  else bodG s b r o
theorem bodG_eq (s b : List UInt8) : ∀ (ls : List (List UInt8)) (a : Nat) (o : Option Nat), ls.flatten = s.drop a → a ≤ s.length → bodF s b ls a o = bodG s b (lnR ls a) o
 | [], _, none, _, _ => rfl
 | [], _, some _, _, _ => rfl
 | l :: r, a, o, h, ha => by
  have h1 : (s.take (a + l.length)).drop a = l := by
   rw [List.flatten_cons] at h
   rw [List.drop_take, ← h, show a + l.length - a = l.length by omega, List.take_left]
  have h2 : a + l.length ≤ s.length := by
   have := congrArg List.length h
   rw [List.flatten_cons, List.length_append, List.length_drop] at this
   omega
  have h3 : r.flatten = s.drop (a + l.length) := by
   rw [List.flatten_cons] at h
   rw [← List.drop_drop, ← h, List.drop_left]
  unfold bodF lnR bodG
  dsimp only
  rw [h1, bodG_eq s b r _ _ h3 h2, bodG_eq s b r _ _ h3 h2]
  cases o <;> rfl
theorem bodies_eq (s : List UInt8) (i : Nat) (b : List UInt8) (h : i ≤ s.length) : bodiesP s i b = bodG s b (lnsP s i) none := by
 unfold bodiesP lnsP
 exact bodG_eq s b _ _ _ (linesP_flat _) h
set_option maxRecDepth 100000 in
set_option maxHeartbeats 4000000 in
theorem lines_any (s : List UInt8) (i : Nat) (w : World) :
  Calls Tryz.prog 145 #[.string (ba s), .int .i64 (i : Int)] w fun e w' => e = .returned (.func (.func 193) #[] #[.pointer (some ⟨w.heap.size + 1, 0, none⟩), .pointer (some ⟨w.heap.size, 0, none⟩)]) ∧ w' = (w.alloc (.cells #[.string (ba s)] 9)).alloc (.cells #[.int .i64 (i : Int)] 3) := by
 go_enter Tryz.func145, Tryz.ntmps145
 go_wp2
 go_ret
 exact ⟨rfl, rfl⟩
structure LnX (s : List UInt8) where
 v : Nat × Nat
 le : v.1 ≤ v.2
 ls : v.2 ≤ s.length
theorem keeps2_set {bf k : Nat} {A B : World} {o : Obj} (h : setsC bf A B) (hk : A.heap[k]? = some o) (ho : o.isCells = false) : B.heap[k]? = some o := by
 obtain ⟨v, rfl⟩ := h
 exact (KeepsOthers.setCell A ⟨bf, 0, none⟩ v).same k o hk ho
theorem lines_seq (s : List UInt8) (i bf bs : Nat) (w : World) (hl : s.length ≤ 1000000000) (hi : i ≤ s.length) (hne : bf ≠ bs) (hf : w.heap[bf]? = some (.cells #[.int .i64 (i : Int)] 3 (0, 0))) (hs : w.heap[bs]? = some (.cells #[.string (ba s)] 9 (0, 0))) :
  SeqC Fence.wide 8 Tryz.prog 193 #[.pointer (some ⟨bf, 0, none⟩), .pointer (some ⟨bs, 0, none⟩)] (fun x : LnX s => #[.int .i64 (x.v.1 : Nat), .int .i64 (x.v.2 : Nat)]) (setsC bf) (keeps2 bf bs)
   (fun xs => xs.map LnX.v = lnsP s i) (fun xs => xs.map LnX.v <+: lnsP s i) (lnsP s i).length w := by
 intro l J Jx W hW hJ hJx hY h0
 have hlf := heap_lt hf
 have hls := heap_lt hs
 refine CallsIn.mono (lines1_in l bf bs i s (fun pre W => ∃ q : List (LnX s), q.map LnX.v = pre ∧ J q W) (fun pre W => ∃ q : List (LnX s), q.map LnX.v = pre ∧ Jx q W) hl hi hne (fun _ A B ⟨q, h1, h2⟩ h => ⟨q, h1, hJ _ _ _ h2 h⟩) ?_ W ((hW.block _ hlf).trans hf) ((hW.block _ hls).trans hs) ⟨[], rfl, h0⟩) ?_
 ·rintro pre x W1 ⟨q, rfl, hj⟩ hlen h1 h2
  refine (hY q ⟨x, h1, h2⟩ W1 hj (by rw [List.length_map] at hlen; exact hlen)).mono ?_
  rintro e W2 (⟨rfl, hj2, hk⟩ | ⟨rfl, hj2⟩)
  ·exact .inl ⟨rfl, ⟨_, by simp, hj2⟩, hk⟩
  ·exact .inr ⟨rfl, ⟨_, by simp, hj2⟩⟩
 ·rintro e W2 ⟨he, (⟨ys, rfl, q, hq, hj⟩ | ⟨pre, hp, q, rfl, hj⟩)⟩
  ·exact ⟨he, .inl ⟨q, hq, hj⟩⟩
  ·exact ⟨he, .inr ⟨q, hp, hj⟩⟩
end Go.Proofs.YthidbmeaccpjdaaGreatDoor
end
