/- Layer 15: the contract of Text (printed by gen_decg.py). Layer 15: the contracts of Head, told, Name and Attached (printed by gen_dech.py). The example of the laws 15 (printed by gen_small15.py). Layer 15, plain: what Strip leaves of a text with one element. -/
import Derived.Test.YthidbmeaccpjdaaGreatDoorM24
import Derived.Test.YthidbmeaccpjdaaGreatDoorM12
import Derived.Test.YthidbmeaccpjdaaGreatDoorM18
section
namespace Go.Proofs.YthidbmeaccpjdaaGreatDoor
open Go.RowKit
set_option linter.unusedVariables false
theorem lfA_eq : ∀ (n : Nat) (l : List UInt8), l.length ≤ n → repA [13, 10] [10] l = lfP l
 | _, [], _ => repA_nil (by simp)
 | n, [c], _ => by
  rw [repA_skip (by simp), repA_nil (by simp)]
  ·rfl
  ·cases ho : Lib.occAt [c] [13, 10] 0 with
   | false => rfl
   | true =>
    have := Lib.occAt_room ho
    simp at this
 | 0, c :: d :: r, h => by simp at h
 | n + 1, c :: d :: r, h => by
  have h1 : r.length ≤ n := by simp at h; omega
  have h2 : (d :: r).length ≤ n := by simp at h ⊢; omega
  by_cases he : c = 13 ∧ d = 10
  ·obtain ⟨rfl, rfl⟩ := he
   have h3 := repA_hit (old := [13, 10]) (new := [10]) (s := r) (by simp)
   simp only [List.cons_append, List.nil_append] at h3
   rw [h3, lfA_eq n r h1]
   rfl
  ·rw [repA_skip (by simp), lfA_eq n (d :: r) h2]
   ·show _ = (if c = 13 ∧ d = 10 then 10 :: lfP r else c :: lfP (d :: r))
    rw [if_neg he]
   ·cases ho : Lib.occAt (c :: d :: r) [13, 10] 0 with
    | false => rfl
    | true =>
     rw [Lib.occAt_iff_take _ _ _ (by simp)] at ho
     simp at ho
     exact absurd ho he
theorem lf_any (l : List UInt8) (w : World) (hl : l.length ≤ 1000000000) (hT : Tabs w) :
  Calls Tryz.prog 44 #[.string (ba l), .string ⟨#[13, 10]⟩, .string ⟨#[10]⟩] w (StrB w (lfP l)) := by
 obtain ⟨m, hm⟩ := hT.max
 refine (Tryz.strings_ReplaceAll (ba l) ⟨#[13, 10]⟩ ⟨#[10]⟩ m w (by rw [ba_size]; omega) hm (by decide) (by rw [ba_size]; have := Lib.count_le l [13, 10]; show l.length + Lib.count l [13, 10] * 1 ≤ _; omega)).mono ?_
 rintro e w' ⟨rfl, hb⟩
 refine ⟨?_, hb⟩
 have e1 : Lib.replaceAll (ba l).data.toList (⟨#[13, 10]⟩ : ByteArray).data.toList (⟨#[10]⟩ : ByteArray).data.toList = lfP l := by
  rw [ba_list]
  exact (replaceAll_eq (by decide) l).trans (lfA_eq _ l (Nat.le_refl _))
 rw [e1]
 rfl
theorem stripF_len : ∀ (f : Nat) (l : List UInt8), (stripF f l).length ≤ 4 * l.length
 | 0, l => Nat.zero_le _
 | f + 1, [] => Nat.zero_le _
 | f + 1, c :: r => by
  have h1 := tag_rest c r
  have i1 := stripF_len f (tagP (c :: r)).2
  have i2 := stripF_len f r
  unfold stripF
  split
  ·rw [List.length_append, List.length_cons]; omega
  ·split
   ·split
    ·rename_i q hq
     have h2 := ent_rest (a := q.1) (b := q.2) hq
     have i3 := stripF_len f q.2
     rw [List.length_append, List.length_cons]; omega
    ·rw [List.length_cons, List.length_cons]; omega
   ·rw [List.length_cons, List.length_cons]; omega
theorem strip_len (l : List UInt8) : (stripP l).length ≤ 4 * l.length := stripF_len _ l
def setT (set B : List UInt8) : List UInt8 := if set ≠ [] then decodeSet set B else repairP B
def textG (K S set B : List UInt8) : List UInt8 := if K ≠ wText then [] else lfP (if S = wHtml then stripP (setT set B) else setT set B)
theorem textOf_eq (s : List UInt8) (p : Prt) : textOf s p = textG p.typ.kind p.typ.sub ((paramT p.typ.params wCharset).getD []) (bytesP s p) := rfl
theorem textG_not {K S set B : List UInt8} (h : K ≠ wText) : textG K S set B = [] := if_pos h
theorem textG_html {K S set B t : List UInt8} (h : K = wText) (h2 : S = wHtml) (h3 : setT set B = t) : textG K S set B = lfP (stripP t) := by subst h3; unfold textG; rw [if_neg (by simp [h]), if_pos h2]
theorem textG_plain {K S set B t : List UInt8} (h : K = wText) (h2 : S ≠ wHtml) (h3 : setT set B = t) : textG K S set B = lfP t := by subst h3; unfold textG; rw [if_neg (by simp [h]), if_neg h2]
theorem setT_len (set B : List UInt8) : (setT set B).length ≤ 4 * B.length := by
 unfold setT
 split
 ·exact decodeSet_len _ _
 ·exact repair_len _
set_option maxRecDepth 100000 in
set_option maxHeartbeats 4000000 in
theorem text_any (s : List UInt8) (p : Prt) (A : Option Addr) (n c : Nat) (w : World) (hs : s.length ≤ 10000000) (hP : Pars w w.heap.size A n p.typ.params) (hn : p.typ.params.length ≤ 1000000000) (hp1 : ∀ q ∈ p.typ.params, q.1.length ≤ 1000000000) (hp2 : ∀ q ∈ p.typ.params, q.2.length ≤ 2570000000) (hT : Tabs w) (hE : EntM w) :
  Calls Tryz.prog 15 #[.string (ba s), prtV p A n c] w (StrB w (textOf s p)) := by
 rw [textOf_eq]
 have HT := Lib.hid hT
 have HE := Lib.hid hE
 have hbl : (bytesP s p).length ≤ 10000000 := Nat.le_trans (bytesP_len s p) hs
 have HBY := Lib.hid (fun W (hW : Below w.heap.size w W) => bytes_any s p A n c W (by omega) (HT.out.below hW))
 have hsl : ((paramT p.typ.params wCharset).getD []).length ≤ 2570000000 := paramT_lenN hp2
 have HPA := Lib.hid (fun W (hW : Below w.heap.size w W) => param_any p.typ.params wCharset A n c W ((hP.below hW).more hW.size) (by rw [← hP.len]; exact hn) hp1 (by decide))
 obtain ⟨oo, hoo⟩ : ∃ o, paramT p.typ.params wCharset = o := ⟨_, rfl⟩
 rw [hoo] at hsl ⊢
 simp only [hoo] at HPA
 clear hoo hP hn hp1 hp2
 unfold ParPost at HPA
 obtain ⟨set, hset⟩ : ∃ b, oo.getD [] = b := ⟨_, rfl⟩
 obtain ⟨ok, hok⟩ : ∃ b, oo.isSome = b := ⟨_, rfl⟩
 rw [hset] at hsl ⊢
 simp only [hset, hok] at HPA
 clear hset hok
 obtain ⟨B, hB⟩ : ∃ b, bytesP s p = b := ⟨_, rfl⟩
 rw [hB] at hbl ⊢
 simp only [hB] at HBY
 clear hB
 obtain ⟨p0, p1, p2, p3, p4, ⟨p5, p6, p7⟩, p8⟩ := p
 unfold prtV at HBY ⊢
 unfold StrB at HBY
 dsimp only at HBY HPA ⊢
 have hul := setT_len set B
 have HNT := Lib.hid (fun h => textG_not (K := p5) (S := p6) (set := set) (B := B) h)
 have HHT := Lib.hid (fun h h2 t h3 => textG_html (K := p5) (S := p6) (set := set) (B := B) (t := t) h h2 h3)
 have HPT := Lib.hid (fun h h2 t h3 => textG_plain (K := p5) (S := p6) (set := set) (B := B) (t := t) h h2 h3)
 obtain ⟨R, hR⟩ : ∃ R, textG p5 p6 set B = R := ⟨_, rfl⟩
 rw [hR]
 simp only [hR] at HNT HHT HPT
 clear hR
 have HDE := Lib.hid (show set ≠ [] → setT set B = decodeSet set B from fun h => if_pos h)
 have HRE := Lib.hid (show set = [] → setT set B = repairP B from fun h => if_neg (by simp [h]))
 obtain ⟨u, hu⟩ : ∃ u, setT set B = u := ⟨_, rfl⟩
 rw [hu] at hul
 simp only [hu] at HHT HPT HDE HRE
 clear hu
 have HST := Lib.hid (fun W (hW : Below w.heap.size w W) => strip_any u W (by omega) (HT.out.below hW) (HE.out.below hW))
 have hvl := strip_len u
 have HL1 := Lib.hid (fun W (hW : Below w.heap.size w W) => lf_any (stripP u) W (by omega) (HT.out.below hW))
 have HL2 := Lib.hid (fun W (hW : Below w.heap.size w W) => lf_any u W (by omega) (HT.out.below hW))
 have HDC := Lib.hid (fun W (hW : Below w.heap.size w W) => decode_big set B W (by omega) (by omega) (HT.out.below hW))
 have HRP := Lib.hid (fun W (hW : Below w.heap.size w W) => repair_any B W (by omega) (HT.out.below hW))
 unfold StrB at HST HL1 HL2 HRP
 unfold DecPost at HDC
 have HBW := Lib.hid (show Below w.heap.size w (w.alloc (.cells #[.int .i64 p0, .int .i64 p1, .int .i64 p2, .int .i64 p3, .int .i64 p4, .string (ba p5), .string (ba p6), .slice A n c, .string (ba p8)] 26)) from (Below.refl _ _).alloc (Nat.le_refl _) _)
 have hbx := (MapKept.heap_alloc w (.cells #[.int .i64 p0, .int .i64 p1, .int .i64 p2, .int .i64 p3, .int .i64 p4, .string (ba p5), .string (ba p6), .slice A n c, .string (ba p8)] 26)).1
 have HBX := Lib.hid hbx
 have b0 := cells_at hbx 0 (u := .int .i64 p0) rfl
 have b1 := cells_at hbx 1 (u := .int .i64 p1) rfl
 have b2 := cells_at hbx 2 (u := .int .i64 p2) rfl
 have b3 := cells_at hbx 3 (u := .int .i64 p3) rfl
 have b4 := cells_at hbx 4 (u := .int .i64 p4) rfl
 have b5 := cells_at hbx 5 (u := .string (ba p5)) rfl
 have b6 := cells_at hbx 6 (u := .string (ba p6)) rfl
 have b7 := cells_at hbx 7 (u := .slice A n c) rfl
 have b8 := cells_at hbx 8 (u := .string (ba p8)) rfl
 clear hbx hT hE hbl hsl hul hvl hs
 by_cases hK : p5 = wText
 ·have gK : ((ba p5).toList == [116, 101, 120, 116]) = true := by rw [ba_toList, hK]; rfl
  have gK2 : ((ba p5).toList != [116, 101, 120, 116]) = false := by rw [ba_toList, hK]; rfl
  have HK := Lib.hid hK
  clear hK
  go_enter Tryz.func15, Tryz.ntmps15
  go_wp2_with fail
  refine (HBY.out _ HBW.out).mono ?_
  rintro e w2 ⟨rfl, hb2⟩
  have HX2 := Lib.hid ((hb2.block _ (heap_lt HBX.out)).trans HBX.out)
  have HB2 := Lib.hid (HBW.out.trans (hb2.mono HBW.out.size))
  have c7 := cells_at HX2.out 7 (u := .slice A n c) rfl
  clear hb2 b0 b1 b2 b3 b4 b5 b6 b7 b8
  go_wp2_with fail
  refine (HPA.out _ HB2.out).mono ?_
  rintro e w3 ⟨rfl, hb3⟩
  have HX3 := Lib.hid ((hb3.block _ (heap_lt HX2.out)).trans HX2.out)
  have HB3 := Lib.hid (HB2.out.trans (hb3.mono HB2.out.size))
  clear hb3 c7
  by_cases h0 : set = []
  ·have g0 : (ba set).toList.isEmpty = true := by rw [ba_toList, h0]; rfl
   have g1 : ((ba set).toList != []) = false := by rw [ba_toList, h0]; rfl
   have HU := Lib.hid (HRE.out h0)
   clear h0
   go_wp2_with fail
   refine (HRP.out _ HB3.out).mono ?_
   rintro e w4 ⟨rfl, hb4⟩
   have HX4 := Lib.hid ((hb4.block _ (heap_lt HX3.out)).trans HX3.out)
   have HB4 := Lib.hid (HB3.out.trans (hb4.mono HB3.out.size))
   have c6 := cells_at HX4.out 6 (u := .string (ba p6)) rfl
   clear hb4
   rw [← HU.out]
   by_cases hS : p6 = wHtml
   ·have gS : ((ba p6).toList == [104, 116, 109, 108]) = true := by rw [ba_toList, hS]; rfl
    have HV := Lib.hid (HHT.out HK.out hS _ rfl)
    clear hS
    go_wp2_with fail
    refine (HST.out _ HB4.out).mono ?_
    rintro e w5 ⟨rfl, hb5⟩
    have HB5 := Lib.hid (HB4.out.trans (hb5.mono HB4.out.size))
    clear hb5
    go_wp2_with fail
    refine (HL1.out _ HB5.out).mono ?_
    rintro e w6 ⟨rfl, hb6⟩
    have HB6 := Lib.hid (HB5.out.trans (hb6.mono HB5.out.size))
    clear hb6
    go_wp2
    go_ret
    exact ⟨by rw [HV.out]; rfl, HB6.out⟩
   ·have gS : ((ba p6).toList == [104, 116, 109, 108]) = false := by rw [ba_toList]; show (p6 == wHtml) = false; simpa using hS
    have HV := Lib.hid (HPT.out HK.out hS _ rfl)
    clear hS
    go_wp2_with fail
    refine (HL2.out _ HB4.out).mono ?_
    rintro e w6 ⟨rfl, hb6⟩
    have HB6 := Lib.hid (HB4.out.trans (hb6.mono HB4.out.size))
    clear hb6
    go_wp2
    go_ret
    exact ⟨by rw [HV.out]; rfl, HB6.out⟩
  ·have g0 : (ba set).toList.isEmpty = false := by rw [ba_toList]; simpa using h0
   have g1 : ((ba set).toList != []) = true := by rw [ba_toList]; simpa using h0
   have HU := Lib.hid (HDE.out h0)
   clear h0
   go_wp2_with fail
   refine (HDC.out _ HB3.out).mono ?_
   rintro e w4 ⟨rfl, hb4⟩
   have HX4 := Lib.hid ((hb4.block _ (heap_lt HX3.out)).trans HX3.out)
   have HB4 := Lib.hid (HB3.out.trans (hb4.mono HB3.out.size))
   have c6 := cells_at HX4.out 6 (u := .string (ba p6)) rfl
   clear hb4
   rw [← HU.out]
   by_cases hS : p6 = wHtml
   ·have gS : ((ba p6).toList == [104, 116, 109, 108]) = true := by rw [ba_toList, hS]; rfl
    have HV := Lib.hid (HHT.out HK.out hS _ rfl)
    clear hS
    go_wp2_with fail
    refine (HST.out _ HB4.out).mono ?_
    rintro e w5 ⟨rfl, hb5⟩
    have HB5 := Lib.hid (HB4.out.trans (hb5.mono HB4.out.size))
    clear hb5
    go_wp2_with fail
    refine (HL1.out _ HB5.out).mono ?_
    rintro e w6 ⟨rfl, hb6⟩
    have HB6 := Lib.hid (HB5.out.trans (hb6.mono HB5.out.size))
    clear hb6
    go_wp2
    go_ret
    exact ⟨by rw [HV.out]; rfl, HB6.out⟩
   ·have gS : ((ba p6).toList == [104, 116, 109, 108]) = false := by rw [ba_toList]; show (p6 == wHtml) = false; simpa using hS
    have HV := Lib.hid (HPT.out HK.out hS _ rfl)
    clear hS
    go_wp2_with fail
    refine (HL2.out _ HB4.out).mono ?_
    rintro e w6 ⟨rfl, hb6⟩
    have HB6 := Lib.hid (HB4.out.trans (hb6.mono HB4.out.size))
    clear hb6
    go_wp2
    go_ret
    exact ⟨by rw [HV.out]; rfl, HB6.out⟩
 ·have gK : ((ba p5).toList == [116, 101, 120, 116]) = false := by rw [ba_toList]; show (p5 == wText) = false; simpa using hK
  have gK2 : ((ba p5).toList != [116, 101, 120, 116]) = true := by rw [ba_toList]; show (p5 != wText) = true; simpa using hK
  have HV := Lib.hid (HNT.out hK)
  clear hK
  go_enter Tryz.func15, Tryz.ntmps15
  go_wp2
  go_ret
  exact ⟨by rw [HV.out]; rfl, HBW.out⟩
end Go.Proofs.YthidbmeaccpjdaaGreatDoor
end
section
namespace Go.Proofs.YthidbmeaccpjdaaGreatDoor
open Go.RowKit
set_option linter.unusedVariables false
def HdPost (w : World) (fs : List Fld) (e : Ending) (w' : World) : Prop := ∃ v, e = .returned v ∧ OwnFlds w' w.heap.size v fs ∧ Below w.heap.size w w'
theorem hd_fin {w w' w0 : World} {fs gs : List Fld} {v : Value} (h : fs = gs) (hz : w.heap.size ≤ w0.heap.size) (ho : OwnFlds w' w0.heap.size v gs) (hb : Below w.heap.size w w') : HdPost w fs (.returned v) w' := by
 subst h
 exact ⟨v, rfl, ho.more hz, hb⟩
set_option maxRecDepth 100000 in
set_option maxHeartbeats 4000000 in
theorem head14_any (l : List UInt8) (p : Prt) (A : Option Addr) (n c : Nat) (w : World) (hl : l.length ≤ 500000000) (hT : Tabs w) :
  Calls Tryz.prog 100 #[.string (ba l), prtV p A n c] w (HdPost w (headOf l p)) := by
 have HT := Lib.hid hT
 have HFI := Lib.hid (fun W => fits_any l p A n c W (by omega))
 have HEX := Lib.hid (fun i j => ba_cut l i j)
 have HFN := Lib.hid (fun (h : fitsP l.length p = true) => fits_in h)
 have HBO := Lib.hid (show headOf l p = if fitsP l.length p = true then (headP ((l.take p.stop.toNat).drop p.start.toNat)).1 else [] from rfl)
 have hlen : ((ba l).size : Int) = l.length := by rw [ba_size]
 unfold prtV prtC at HFI
 unfold prtV
 have HB := Lib.hid (show ∀ o o', Below w.heap.size w ((w.alloc o).alloc o') from fun o o' => ((Below.refl _ _).alloc (Nat.le_refl _) o).alloc (by simp) o')
 obtain ⟨f, hf⟩ : ∃ f, p.start = f := ⟨_, rfl⟩
 obtain ⟨b, hb⟩ : ∃ f, p.body = f := ⟨_, rfl⟩
 obtain ⟨t, ht⟩ : ∃ f, p.stop = f := ⟨_, rfl⟩
 simp only [hf, hb, ht] at HFI HFN
 rw [hf, ht] at HBO
 rw [hf, hb, ht]
 clear hf hb ht hT
 cases hx : fitsP l.length p with
 | false =>
  rw [hx] at HBO
  simp only [hx] at HFI
  have HV := Lib.hid (show headOf l p = [] by rw [HBO.out]; rfl)
  clear hx HBO HFN HEX
  go_enter Tryz.func100, Tryz.ntmps100
  go_wp2_with fail
  refine (HFI.out _).mono ?_
  rintro e w2 ⟨rfl, rfl⟩
  go_wp2
  go_ret
  exact hd_fin HV.out (Nat.le_refl _) (OwnFlds.nil_ _ _) (HB.out _ _)
 | true =>
  obtain ⟨h1, h2, h3, h4⟩ := HFN.out hx
  rw [hx] at HBO
  simp only [hx] at HFI
  obtain ⟨y, hy⟩ : ∃ y, (l.take t.toNat).drop f.toNat = y := ⟨_, rfl⟩
  have hyl : y.length ≤ 500000000 := by rw [← hy, List.length_drop, List.length_take]; omega
  have HV := Lib.hid (show headOf l p = (headP y).1 by rw [HBO.out, ← hy]; rfl)
  have hex := HEX.out f.toNat t.toNat
  rw [hy] at hex
  have HX := Lib.hid hex
  have HPA := Lib.hid (fun W hW => hparse_any y W hyl hW)
  unfold HeadPost at HPA
  have hft : f ≤ t := by omega
  have ht0 : 0 ≤ t := by omega
  clear hx HBO HFN hex h2 h3 hy hyl HEX
  go_enter Tryz.func100, Tryz.ntmps100
  go_wp2_with fail
  refine (HFI.out _).mono ?_
  rintro e w2 ⟨rfl, rfl⟩
  go_wp2_with fail
  rw [HX.out]
  refine (HPA.out _ (HT.out.below (HB.out _ _))).mono ?_
  rintro e w3 ⟨v, rfl, ho, hb3⟩
  obtain ⟨A3, c3, rfl, -, -, -⟩ := ho.reads
  have HO := Lib.hid ho
  have HB3 := Lib.hid ((HB.out (.cells #[.int .i64 p.up, .int .i64 p.depth, .int .i64 f, .int .i64 b, .int .i64 t, .string (ba p.typ.kind), .string (ba p.typ.sub), .slice A n c, .string (ba p.code)] 26) (.cells #[.int .i64 p.up, .int .i64 p.depth, .int .i64 f, .int .i64 b, .int .i64 t, .string (ba p.typ.kind), .string (ba p.typ.sub), .slice A n c, .string (ba p.code)] 26)).trans (hb3.mono (HB.out _ _).size))
  clear ho hb3
  go_wp2
  go_ret
  exact hd_fin HV.out (HB.out _ _).size HO.out HB3.out
theorem headOf_ok (s : List UInt8) (p : Prt) : (∀ x ∈ headOf s p, x.name.length ≤ s.length ∧ x.value.length ≤ s.length) ∧ (headOf s p).length ≤ s.length := by
 unfold headOf
 split
 ·have h := headP_ok ((s.take p.stop.toNat).drop p.start.toNat)
  have hl : ((s.take p.stop.toNat).drop p.start.toNat).length ≤ s.length := by rw [List.length_drop, List.length_take]; omega
  exact ⟨fun x hx => by have := h.1 x hx; omega, by omega⟩
 ·exact ⟨fun x hx => (by cases hx), Nat.zero_le _⟩
theorem told_len (s : List UInt8) (p : Prt) : ((getP (headOf s p) cdName).getD []).length ≤ s.length := getD_len fun v hv => getP_len (fun x hx => ((headOf_ok s p).1 x hx).2) hv
theorem disp_in {w w2 w3 : World} {q : List UInt8 × List (List UInt8 × List UInt8)} (hz : w.heap.size ≤ w2.heap.size) (hb : Below w.heap.size w w2) {e : Ending} (h : DispPost w2 q e w3) : DispPost w q e w3 := by
 obtain ⟨v, he, ho, hb2⟩ := h
 exact ⟨v, he, ho.more hz, hb.trans (hb2.mono hz)⟩
set_option maxRecDepth 100000 in
set_option maxHeartbeats 4000000 in
theorem told_any (s : List UInt8) (p : Prt) (A : Option Addr) (n c : Nat) (w : World) (hs : s.length ≤ 10000000) (hT : Tabs w) :
  Calls Tryz.prog 48 #[.string (ba s), prtV p A n c] w (DispPost w (toldP s p)) := by
 have HT := Lib.hid hT
 have HHE := Lib.hid (fun W (hW : Below w.heap.size w W) => head14_any s p A n c W (by omega) (HT.out.below hW))
 have hok := headOf_ok s p
 have hol := told_len s p
 have HV := Lib.hid (show toldP s p = dispT ((getP (headOf s p) cdName).getD []) from rfl)
 obtain ⟨fs, hfs⟩ : ∃ f, headOf s p = f := ⟨_, rfl⟩
 simp only [hfs] at HHE
 rw [hfs] at hok hol HV
 clear hfs
 obtain ⟨R, hR⟩ : ∃ R, toldP s p = R := ⟨_, rfl⟩
 rw [hR] at HV ⊢
 clear hR
 have HOK := Lib.hid (show ∀ f ∈ fs, f.name.length ≤ 1000000000 ∧ f.value.length ≤ 1000000000 from fun f hf => by have := hok.1 f hf; omega)
 have hfl : fs.length ≤ 1000000000 := by have := hok.2; omega
 obtain ⟨p0, p1, p2, p3, p4, ⟨p5, p6, p7⟩, p8⟩ := p
 unfold prtV at HHE ⊢
 unfold HdPost at HHE
 dsimp only at HHE ⊢
 have HBW := Lib.hid (show Below w.heap.size w (w.alloc (.cells #[.int .i64 p0, .int .i64 p1, .int .i64 p2, .int .i64 p3, .int .i64 p4, .string (ba p5), .string (ba p6), .slice A n c, .string (ba p8)] 26)) from (Below.refl _ _).alloc (Nat.le_refl _) _)
 have hbx := (MapKept.heap_alloc w (.cells #[.int .i64 p0, .int .i64 p1, .int .i64 p2, .int .i64 p3, .int .i64 p4, .string (ba p5), .string (ba p6), .slice A n c, .string (ba p8)] 26)).1
 have b0 := cells_at hbx 0 (u := .int .i64 p0) rfl
 have b1 := cells_at hbx 1 (u := .int .i64 p1) rfl
 have b2 := cells_at hbx 2 (u := .int .i64 p2) rfl
 have b3 := cells_at hbx 3 (u := .int .i64 p3) rfl
 have b4 := cells_at hbx 4 (u := .int .i64 p4) rfl
 have b5 := cells_at hbx 5 (u := .string (ba p5)) rfl
 have b6 := cells_at hbx 6 (u := .string (ba p6)) rfl
 have b7 := cells_at hbx 7 (u := .slice A n c) rfl
 have b8 := cells_at hbx 8 (u := .string (ba p8)) rfl
 clear hbx hT hok
 go_enter Tryz.func48, Tryz.ntmps48
 go_wp2_with fail
 refine (HHE.out _ HBW.out).mono ?_
 rintro e w2 ⟨v, rfl, ho, hb2⟩
 obtain ⟨A2, c2, rfl, -, -, hF⟩ := ho.reads
 have HB2 := Lib.hid (HBW.out.trans (hb2.mono HBW.out.size))
 obtain ⟨m, hm⟩ : ∃ m, fs.length = m := ⟨_, rfl⟩
 rw [hm] at hF hfl ⊢
 have HGE := Lib.hid (show Calls Tryz.prog 75 #[.slice A2 m c2, .string ⟨#[99, 111, 110, 116, 101, 110, 116, 45, 100, 105, 115, 112, 111, 115, 105, 116, 105, 111, 110]⟩] w2 (GetPost9 w2 (getP fs cdName)) from hget_any fs A2 m c2 cdName w2 hF hfl HOK.out (by decide) (HT.out.below HB2.out))
 clear ho hb2 hm hF b0 b1 b2 b3 b4 b5 b6 b7 b8
 unfold GetPost9 at HGE
 obtain ⟨o, ho⟩ : ∃ o, getP fs cdName = o := ⟨_, rfl⟩
 rw [ho] at HGE HV hol
 clear ho
 obtain ⟨y, hy⟩ : ∃ y, o.getD [] = y := ⟨_, rfl⟩
 obtain ⟨x, hx⟩ : ∃ x, o.isSome = x := ⟨_, rfl⟩
 rw [hy] at HGE HV hol
 rw [hx] at HGE
 clear hx hy
 go_wp2_with fail
 refine HGE.out.mono ?_
 rintro e w3 ⟨rfl, hb3⟩
 have HB3 := Lib.hid (HB2.out.trans (hb3.mono HB2.out.size))
 have HDI := Lib.hid (disp_any y w3 (by omega) (HT.out.below HB3.out))
 clear hb3
 rw [← HV.out] at HDI
 unfold DispPost at HDI
 go_wp2_with fail
 refine HDI.out.mono ?_
 rintro e w4 ⟨v, rfl, ho, hb4⟩
 obtain ⟨A4, c4, rfl, -, -, -⟩ := ho.reads
 have HO := Lib.hid ho
 have HB4 := Lib.hid hb4
 clear ho hb4
 go_wp2
 go_ret2
 exact disp_in HB3.out.size HB3.out ⟨_, rfl, HO.out, HB4.out⟩
def nameG (f g : List UInt8) : List UInt8 := wordsP (if f = [] then g else f)
theorem nameOf_eq (s : List UInt8) (p : Prt) : nameOf s p = nameG ((paramT (toldP s p).2 wFilename).getD []) ((paramT p.typ.params wName).getD []) := rfl
set_option maxRecDepth 100000 in
set_option maxHeartbeats 4000000 in
theorem name_any (s : List UInt8) (p : Prt) (A : Option Addr) (n c : Nat) (w : World) (hs : s.length ≤ 300000) (hP : Pars w w.heap.size A n p.typ.params) (hn : p.typ.params.length ≤ 1000000000) (hp1 : ∀ q ∈ p.typ.params, q.1.length ≤ 1000000000) (hp2 : ∀ q ∈ p.typ.params, q.2.length ≤ 100000000) (hT : Tabs w) :
  Calls Tryz.prog 17 #[.string (ba s), prtV p A n c] w (StrB w (nameOf s p)) := by
 rw [nameOf_eq]
 have HT := Lib.hid hT
 have HTO := Lib.hid (fun W (hW : Below w.heap.size w W) => told_any s p A n c W (by omega) (HT.out.below hW))
 have hdl := disp_lenN ((getP (headOf s p) cdName).getD [])
 have hol := told_len s p
 have hgl : ((paramT p.typ.params wName).getD []).length ≤ 100000000 := paramT_lenN hp2
 have HPA := Lib.hid (fun W (hW : Below w.heap.size w W) => param_any p.typ.params wName A n c W ((hP.below hW).more hW.size) (by rw [← hP.len]; exact hn) hp1 (by decide))
 obtain ⟨⟨dk, dp⟩, hd⟩ : ∃ d, toldP s p = d := ⟨_, rfl⟩
 have hdl2 : dp.length ≤ 1000000000 ∧ ∀ q ∈ dp, q.1.length ≤ 1000000000 ∧ q.2.length ≤ 100000000 := by
  have e : dp = (dispT ((getP (headOf s p) cdName).getD [])).2 := (congrArg Prod.snd hd).symm
  rw [e]
  exact ⟨by have := hdl.1; omega, fun q hq => by have := hdl.2 q hq; omega⟩
 simp only [hd] at HTO
 rw [hd]
 clear hd hdl hol
 dsimp only
 unfold DispPost at HTO
 have hfl : ((paramT dp wFilename).getD []).length ≤ 100000000 := paramT_lenN fun q hq => (hdl2.2 q hq).2
 have HFA := Lib.hid (fun W A' c' (hq : Pars W W.heap.size A' dp.length dp) => param_any dp wFilename A' dp.length c' W hq hdl2.1 (fun q hq => (hdl2.2 q hq).1) (by decide))
 obtain ⟨N1, hN1⟩ : ∃ k, dp.length = k := ⟨_, rfl⟩
 simp only [hN1] at HFA
 have HN1 := Lib.hid hN1
 obtain ⟨o1, ho1⟩ : ∃ o, paramT dp wFilename = o := ⟨_, rfl⟩
 rw [ho1] at hfl ⊢
 simp only [ho1] at HFA
 obtain ⟨o2, ho2⟩ : ∃ o, paramT p.typ.params wName = o := ⟨_, rfl⟩
 rw [ho2] at hgl ⊢
 simp only [ho2] at HPA
 clear ho1 ho2 hP hn hp1 hp2 hdl2 hN1
 unfold ParPost at HFA HPA
 obtain ⟨f, hf⟩ : ∃ b, o1.getD [] = b := ⟨_, rfl⟩
 obtain ⟨k1, hk1⟩ : ∃ b, o1.isSome = b := ⟨_, rfl⟩
 rw [hf] at hfl ⊢
 simp only [hf, hk1] at HFA
 clear hf hk1
 obtain ⟨g, hg⟩ : ∃ b, o2.getD [] = b := ⟨_, rfl⟩
 obtain ⟨k2, hk2⟩ : ∃ b, o2.isSome = b := ⟨_, rfl⟩
 rw [hg] at hgl ⊢
 simp only [hg, hk2] at HPA
 clear hg hk2
 have HV0 := Lib.hid (fun (h : f = []) => (show nameG f g = wordsP g by unfold nameG; rw [if_pos h]))
 have HV1 := Lib.hid (fun (h : f ≠ []) => (show nameG f g = wordsP f by unfold nameG; rw [if_neg h]))
 obtain ⟨R, hR⟩ : ∃ R, nameG f g = R := ⟨_, rfl⟩
 rw [hR]
 simp only [hR] at HV0 HV1
 clear hR
 have HW1 := Lib.hid (fun W (hW : Below w.heap.size w W) => words_any f W hfl (HT.out.below hW))
 have HW2 := Lib.hid (fun W (hW : Below w.heap.size w W) => words_any g W hgl (HT.out.below hW))
 unfold StrB at HW1 HW2
 obtain ⟨p0, p1, p2, p3, p4, ⟨p5, p6, p7⟩, p8⟩ := p
 unfold prtV at HTO ⊢
 dsimp only at HTO HPA ⊢
 have HBW := Lib.hid (show Below w.heap.size w (w.alloc (.cells #[.int .i64 p0, .int .i64 p1, .int .i64 p2, .int .i64 p3, .int .i64 p4, .string (ba p5), .string (ba p6), .slice A n c, .string (ba p8)] 26)) from (Below.refl _ _).alloc (Nat.le_refl _) _)
 have hbx := (MapKept.heap_alloc w (.cells #[.int .i64 p0, .int .i64 p1, .int .i64 p2, .int .i64 p3, .int .i64 p4, .string (ba p5), .string (ba p6), .slice A n c, .string (ba p8)] 26)).1
 have HBX := Lib.hid hbx
 have b0 := cells_at hbx 0 (u := .int .i64 p0) rfl
 have b1 := cells_at hbx 1 (u := .int .i64 p1) rfl
 have b2 := cells_at hbx 2 (u := .int .i64 p2) rfl
 have b3 := cells_at hbx 3 (u := .int .i64 p3) rfl
 have b4 := cells_at hbx 4 (u := .int .i64 p4) rfl
 have b5 := cells_at hbx 5 (u := .string (ba p5)) rfl
 have b6 := cells_at hbx 6 (u := .string (ba p6)) rfl
 have b7 := cells_at hbx 7 (u := .slice A n c) rfl
 have b8 := cells_at hbx 8 (u := .string (ba p8)) rfl
 clear hbx hT hfl hgl
 go_enter Tryz.func17, Tryz.ntmps17
 go_wp2_with fail
 refine (HTO.out _ HBW.out).mono ?_
 rintro e w2 ⟨v, rfl, ho, hb2⟩
 obtain ⟨A2, c2, rfl, -, -, hP2⟩ := ho.reads
 have HX2 := Lib.hid ((hb2.block _ (heap_lt HBX.out)).trans HBX.out)
 have HB2 := Lib.hid (HBW.out.trans (hb2.mono HBW.out.size))
 rw [HN1.out] at hP2 ⊢
 have HFB := Lib.hid (HFA.out w2 A2 c2 hP2)
 clear ho hb2 hP2 b0 b1 b2 b3 b4 b5 b6 b7 b8
 go_wp2_with fail
 refine HFB.out.mono ?_
 rintro e w3 ⟨rfl, hb3⟩
 have HX3 := Lib.hid ((hb3.block _ (heap_lt HX2.out)).trans HX2.out)
 have HB3 := Lib.hid (HB2.out.trans (hb3.mono HB2.out.size))
 have c7 := cells_at HX3.out 7 (u := .slice A n c) rfl
 clear hb3
 by_cases h0 : f = []
 ·have g0 : (ba f).toList.isEmpty = true := by rw [ba_toList, h0]; rfl
  have g1 : ((ba f).toList == []) = true := by rw [ba_toList, h0]; rfl
  have HU := Lib.hid (HV0.out h0)
  clear h0
  go_wp2_with fail
  refine (HPA.out _ HB3.out).mono ?_
  rintro e w4 ⟨rfl, hb4⟩
  have HB4 := Lib.hid (HB3.out.trans (hb4.mono HB3.out.size))
  clear hb4
  go_wp2_with fail
  refine (HW2.out _ HB4.out).mono ?_
  rintro e w5 ⟨rfl, hb5⟩
  have HB5 := Lib.hid (HB4.out.trans (hb5.mono HB4.out.size))
  clear hb5
  go_wp2
  go_ret
  exact ⟨by rw [HU.out]; rfl, HB5.out⟩
 ·have g0 : (ba f).toList.isEmpty = false := by rw [ba_toList]; simpa using h0
  have g1 : ((ba f).toList == []) = false := by rw [ba_toList]; simpa using h0
  have HU := Lib.hid (HV1.out h0)
  clear h0
  go_wp2_with fail
  refine (HW1.out _ HB3.out).mono ?_
  rintro e w5 ⟨rfl, hb5⟩
  have HB5 := Lib.hid (HB3.out.trans (hb5.mono HB3.out.size))
  clear hb5
  go_wp2
  go_ret
  exact ⟨by rw [HU.out]; rfl, HB5.out⟩
def attG (dk nm K : List UInt8) : Bool := if dk = wAttach then true else if dk ≠ wInline ∧ nm ≠ [] then true else decide (K ≠ wText) && decide (K ≠ wMulti)
theorem attachedP_eq (s : List UInt8) (p : Prt) : attachedP s p = attG (toldP s p).1 (nameOf s p) p.typ.kind := rfl
theorem attG_yes {dk nm K : List UInt8} (h : dk = wAttach) : attG dk nm K = true := if_pos h
theorem attG_name {dk nm K : List UInt8} (h : dk ≠ wAttach) (h2 : dk ≠ wInline) (h3 : nm ≠ []) : attG dk nm K = true := by unfold attG; rw [if_neg h, if_pos ⟨h2, h3⟩]
theorem attG_in {dk nm K : List UInt8} (h : dk ≠ wAttach) (h2 : dk = wInline ∨ nm = []) : attG dk nm K = (decide (K ≠ wText) && decide (K ≠ wMulti)) := by
 unfold attG
 rw [if_neg h, if_neg]
 rintro ⟨h3, h4⟩
 rcases h2 with h2 | h2
 ·exact h3 h2
 ·exact h4 h2
set_option maxRecDepth 100000 in
set_option maxHeartbeats 4000000 in
theorem attached_any (s : List UInt8) (p : Prt) (A : Option Addr) (n c : Nat) (w : World) (hs : s.length ≤ 300000) (hP : Pars w w.heap.size A n p.typ.params) (hn : p.typ.params.length ≤ 1000000000) (hp1 : ∀ q ∈ p.typ.params, q.1.length ≤ 1000000000) (hp2 : ∀ q ∈ p.typ.params, q.2.length ≤ 100000000) (hT : Tabs w) :
  Calls Tryz.prog 19 #[.string (ba s), prtV p A n c] w fun e w' => e = .returned (.bool (attachedP s p)) ∧ Below w.heap.size w w' := by
 rw [attachedP_eq]
 have HT := Lib.hid hT
 have HTO := Lib.hid (fun W (hW : Below w.heap.size w W) => told_any s p A n c W (by omega) (HT.out.below hW))
 have HNA := Lib.hid (fun W (hW : Below w.heap.size w W) => name_any s p A n c W hs ((hP.below hW).more hW.size) hn hp1 hp2 (HT.out.below hW))
 obtain ⟨⟨dk, dp⟩, hd⟩ : ∃ d, toldP s p = d := ⟨_, rfl⟩
 simp only [hd] at HTO
 rw [hd]
 dsimp only
 obtain ⟨nm, hnm⟩ : ∃ d, nameOf s p = d := ⟨_, rfl⟩
 simp only [hnm] at HNA
 rw [hnm]
 clear hd hnm hP hn hp1 hp2
 unfold DispPost at HTO
 unfold StrB at HNA
 obtain ⟨p0, p1, p2, p3, p4, ⟨p5, p6, p7⟩, p8⟩ := p
 unfold prtV at HTO HNA ⊢
 dsimp only at HTO HNA ⊢
 have HY := Lib.hid (fun h => attG_yes (dk := dk) (nm := nm) (K := p5) h)
 have HM := Lib.hid (fun h h2 h3 => attG_name (dk := dk) (nm := nm) (K := p5) h h2 h3)
 have HI := Lib.hid (fun h h2 => attG_in (dk := dk) (nm := nm) (K := p5) h h2)
 obtain ⟨R, hR⟩ : ∃ R, attG dk nm p5 = R := ⟨_, rfl⟩
 rw [hR]
 simp only [hR] at HY HM HI
 clear hR
 have HBW := Lib.hid (show Below w.heap.size w (w.alloc (.cells #[.int .i64 p0, .int .i64 p1, .int .i64 p2, .int .i64 p3, .int .i64 p4, .string (ba p5), .string (ba p6), .slice A n c, .string (ba p8)] 26)) from (Below.refl _ _).alloc (Nat.le_refl _) _)
 have hbx := (MapKept.heap_alloc w (.cells #[.int .i64 p0, .int .i64 p1, .int .i64 p2, .int .i64 p3, .int .i64 p4, .string (ba p5), .string (ba p6), .slice A n c, .string (ba p8)] 26)).1
 have HBX := Lib.hid hbx
 have b0 := cells_at hbx 0 (u := .int .i64 p0) rfl
 have b1 := cells_at hbx 1 (u := .int .i64 p1) rfl
 have b2 := cells_at hbx 2 (u := .int .i64 p2) rfl
 have b3 := cells_at hbx 3 (u := .int .i64 p3) rfl
 have b4 := cells_at hbx 4 (u := .int .i64 p4) rfl
 have b5 := cells_at hbx 5 (u := .string (ba p5)) rfl
 have b6 := cells_at hbx 6 (u := .string (ba p6)) rfl
 have b7 := cells_at hbx 7 (u := .slice A n c) rfl
 have b8 := cells_at hbx 8 (u := .string (ba p8)) rfl
 clear hbx hT hs
 go_enter Tryz.func19, Tryz.ntmps19
 go_wp2_with fail
 refine (HTO.out _ HBW.out).mono ?_
 rintro e w2 ⟨v, rfl, ho, hb2⟩
 obtain ⟨A2, c2, rfl, -, -, -⟩ := ho.reads
 have HX2 := Lib.hid ((hb2.block _ (heap_lt HBX.out)).trans HBX.out)
 have HB2 := Lib.hid (HBW.out.trans (hb2.mono HBW.out.size))
 obtain ⟨N1, hN1⟩ : ∃ k, dp.length = k := ⟨_, rfl⟩
 rw [hN1]
 clear ho hb2 hN1 b0 b1 b2 b3 b4 b5 b6 b7 b8
 by_cases hA : dk = wAttach
 ·have gA : ((ba dk).toList == [97, 116, 116, 97, 99, 104, 109, 101, 110, 116]) = true := by rw [ba_toList, hA]; rfl
  have HU := Lib.hid (HY.out hA)
  clear hA
  go_wp2
  go_ret
  exact ⟨by rw [HU.out]; rfl, HB2.out⟩
 ·have gA : ((ba dk).toList == [97, 116, 116, 97, 99, 104, 109, 101, 110, 116]) = false := by rw [ba_toList]; show (dk == wAttach) = false; simpa using hA
  by_cases hN : dk = wInline
  ·have gN : ((ba dk).toList == [105, 110, 108, 105, 110, 101]) = true := by rw [ba_toList, hN]; rfl
   have HU := Lib.hid (HI.out hA (.inl hN))
   have c5 := cells_at HX2.out 5 (u := .string (ba p5)) rfl
   clear hA hN
   by_cases hK : p5 = wText
   ·have gK : ((ba p5).toList == [116, 101, 120, 116]) = true := by rw [ba_toList, hK]; rfl
    have gK2 : ((ba p5).toList != [116, 101, 120, 116]) = false := by rw [ba_toList, hK]; rfl
    have HR := Lib.hid (show R = false by rw [HU.out, hK]; rfl)
    clear hK
    go_wp2
    go_ret
    exact ⟨by rw [HR.out]; rfl, HB2.out⟩
   ·have gK : ((ba p5).toList == [116, 101, 120, 116]) = false := by rw [ba_toList]; show (p5 == wText) = false; simpa using hK
    have gK2 : ((ba p5).toList != [116, 101, 120, 116]) = true := by rw [ba_toList]; show (p5 != wText) = true; simpa using hK
    by_cases hM : p5 = wMulti
    ·have gM : ((ba p5).toList == [109, 117, 108, 116, 105, 112, 97, 114, 116]) = true := by rw [ba_toList, hM]; rfl
     have gM2 : ((ba p5).toList != [109, 117, 108, 116, 105, 112, 97, 114, 116]) = false := by rw [ba_toList, hM]; rfl
     have HR := Lib.hid (show R = false by rw [HU.out, hM]; rfl)
     clear hK hM
     go_wp2
     go_ret
     exact ⟨by rw [HR.out]; rfl, HB2.out⟩
    ·have gM : ((ba p5).toList == [109, 117, 108, 116, 105, 112, 97, 114, 116]) = false := by rw [ba_toList]; show (p5 == wMulti) = false; simpa using hM
     have gM2 : ((ba p5).toList != [109, 117, 108, 116, 105, 112, 97, 114, 116]) = true := by rw [ba_toList]; show (p5 != wMulti) = true; simpa using hM
     have HR := Lib.hid (show R = true by rw [HU.out]; simp [hK, hM])
     clear hK hM
     go_wp2
     go_ret
     exact ⟨by rw [HR.out]; rfl, HB2.out⟩
  ·have gN : ((ba dk).toList == [105, 110, 108, 105, 110, 101]) = false := by rw [ba_toList]; show (dk == wInline) = false; simpa using hN
   have b0 := cells_at HX2.out 0 (u := .int .i64 p0) rfl
   have b1 := cells_at HX2.out 1 (u := .int .i64 p1) rfl
   have b2 := cells_at HX2.out 2 (u := .int .i64 p2) rfl
   have b3 := cells_at HX2.out 3 (u := .int .i64 p3) rfl
   have b4 := cells_at HX2.out 4 (u := .int .i64 p4) rfl
   have b5 := cells_at HX2.out 5 (u := .string (ba p5)) rfl
   have b6 := cells_at HX2.out 6 (u := .string (ba p6)) rfl
   have b7 := cells_at HX2.out 7 (u := .slice A n c) rfl
   have b8 := cells_at HX2.out 8 (u := .string (ba p8)) rfl
   by_cases h0 : nm = []
   ·have g0 : (ba nm).toList.isEmpty = true := by rw [ba_toList, h0]; rfl
    have g1 : ((ba nm).toList != []) = false := by rw [ba_toList, h0]; rfl
    have HU := Lib.hid (HI.out hA (.inr h0))
    clear hA hN h0
    go_wp2_with fail
    refine (HNA.out _ HB2.out).mono ?_
    rintro e w3 ⟨rfl, hb3⟩
    have HX3 := Lib.hid ((hb3.block _ (heap_lt HX2.out)).trans HX2.out)
    have HB3 := Lib.hid (HB2.out.trans (hb3.mono HB2.out.size))
    clear hb3 b0 b1 b2 b3 b4 b5 b6 b7 b8
    have c5 := cells_at HX3.out 5 (u := .string (ba p5)) rfl
    by_cases hK : p5 = wText
    ·have gK : ((ba p5).toList == [116, 101, 120, 116]) = true := by rw [ba_toList, hK]; rfl
     have gK2 : ((ba p5).toList != [116, 101, 120, 116]) = false := by rw [ba_toList, hK]; rfl
     have HR := Lib.hid (show R = false by rw [HU.out, hK]; rfl)
     clear hK
     go_wp2
     go_ret
     exact ⟨by rw [HR.out]; rfl, HB3.out⟩
    ·have gK : ((ba p5).toList == [116, 101, 120, 116]) = false := by rw [ba_toList]; show (p5 == wText) = false; simpa using hK
     have gK2 : ((ba p5).toList != [116, 101, 120, 116]) = true := by rw [ba_toList]; show (p5 != wText) = true; simpa using hK
     by_cases hM : p5 = wMulti
     ·have gM : ((ba p5).toList == [109, 117, 108, 116, 105, 112, 97, 114, 116]) = true := by rw [ba_toList, hM]; rfl
      have gM2 : ((ba p5).toList != [109, 117, 108, 116, 105, 112, 97, 114, 116]) = false := by rw [ba_toList, hM]; rfl
      have HR := Lib.hid (show R = false by rw [HU.out, hM]; rfl)
      clear hK hM
      go_wp2
      go_ret
      exact ⟨by rw [HR.out]; rfl, HB3.out⟩
     ·have gM : ((ba p5).toList == [109, 117, 108, 116, 105, 112, 97, 114, 116]) = false := by rw [ba_toList]; show (p5 == wMulti) = false; simpa using hM
      have gM2 : ((ba p5).toList != [109, 117, 108, 116, 105, 112, 97, 114, 116]) = true := by rw [ba_toList]; show (p5 != wMulti) = true; simpa using hM
      have HR := Lib.hid (show R = true by rw [HU.out]; simp [hK, hM])
      clear hK hM
      go_wp2
      go_ret
      exact ⟨by rw [HR.out]; rfl, HB3.out⟩
   ·have g0 : (ba nm).toList.isEmpty = false := by rw [ba_toList]; simpa using h0
    have g1 : ((ba nm).toList != []) = true := by rw [ba_toList]; simpa using h0
    have HU := Lib.hid (HM.out hA hN h0)
    clear hA hN h0
    go_wp2_with fail
    refine (HNA.out _ HB2.out).mono ?_
    rintro e w3 ⟨rfl, hb3⟩
    have HB3 := Lib.hid (HB2.out.trans (hb3.mono HB2.out.size))
    clear hb3 b0 b1 b2 b3 b4 b5 b6 b7 b8
    go_wp2
    go_ret
    exact ⟨by rw [HU.out]; rfl, HB3.out⟩
end Go.Proofs.YthidbmeaccpjdaaGreatDoor
end
section
namespace Go.Proofs.YthidbmeaccpjdaaGreatDoor
open Go.RowKit
set_option linter.unusedVariables false
def exS : List UInt8 := [67, 111, 110, 116, 101, 110, 116, 45, 84, 121, 112, 101, 58, 32, 116, 101, 120, 116, 47, 104, 116, 109, 108, 59, 32, 99, 104, 97, 114, 115, 101, 116, 61, 108, 97, 116, 105, 110, 49, 59, 32, 110, 97, 109, 101, 61, 110, 13, 10, 67, 111, 110, 116, 101, 110, 116, 45, 84, 114, 97, 110, 115, 102, 101, 114, 45, 69, 110, 99, 111, 100, 105, 110, 103, 58, 32, 66, 97, 115, 101, 54, 52, 13, 10, 67, 111, 110, 116, 101, 110, 116, 45, 68, 105, 115, 112, 111, 115, 105, 116, 105, 111, 110, 58, 32, 105, 110, 108, 105, 110, 101, 59, 32, 102, 105, 108, 101, 110, 97, 109, 101, 61, 102, 46, 120, 13, 10, 13, 10, 80, 71, 73, 43, 54, 84, 119, 118, 13, 10, 89, 106, 52, 56, 89, 110, 73, 43, 74, 109, 120, 48, 79, 119, 61, 61]
def exP : Prt := ⟨-1, 0, 0, 129, 155, ⟨wText, wHtml, [(wCharset, [108, 97, 116, 105, 110, 49]), (wName, [110])]⟩, wB64⟩
def exT : List UInt8 := [97, 60, 98, 114, 62, 98, 32, 38, 108, 116, 59, 99, 38, 103, 116, 59, 60, 33, 45, 45, 32, 100, 32, 45, 45, 62, 60, 32, 38, 35, 120, 52, 49, 59, 38, 110, 111, 59, 60, 115, 116, 121, 108, 101, 62, 120, 60, 47, 83, 84, 89, 76, 69, 32, 62, 121]
theorem ex_part : readPt exS (-1) 0 0 exS.length false = exP := by kernel_rfl
theorem ex_bytes : bytesP exS exP = [60, 98, 62, 233, 60, 47, 98, 62, 60, 98, 114, 62, 38, 108, 116, 59] := by kernel_rfl
theorem ex_text : textOf exS exP = [195, 169, 10, 60] := by kernel_rfl
theorem ex_name : nameOf exS exP = [102, 46, 120] := by kernel_rfl
theorem ex_att : attachedP exS exP = false := by kernel_rfl
theorem ex_strip : stripP exT = [97, 10, 98, 32, 60, 99, 62, 60, 32, 65, 38, 110, 111, 59, 121] := by kernel_rfl
def LTrue15 (w : World) (e : Ending) (w' : World) : Prop := e = .returned (.bool true) ∧ Below w.heap.size w w'
set_option maxRecDepth 100000 in
set_option maxHeartbeats 4000000 in
theorem small15_any (w : World) (hT : Tabs w) (hE : EntM w) : Calls Tryz.prog 10 #[] w (LTrue15 w) := by
 have HT := Lib.hid hT
 have HE := Lib.hid hE
 have hpl : ∀ q ∈ exP.typ.params, q.1.length ≤ 100 ∧ q.2.length ≤ 100 := by decide
 have hp1 : ∀ q ∈ exP.typ.params, q.1.length ≤ 1000000000 := fun q hq => by have := hpl q hq; omega
 have hp2 : ∀ q ∈ exP.typ.params, q.2.length ≤ 2570000000 := fun q hq => by have := hpl q hq; omega
 have hp3 : ∀ q ∈ exP.typ.params, q.2.length ≤ 100000000 := fun q hq => by have := hpl q hq; omega
 have hsl : exS.length ≤ 300000 := by decide
 have HWH := Lib.hid (show ∀ W, Tabs W → Calls Tryz.prog 24 #[.string (ba exS)] W fun e w' => ∃ A n c, e = .returned (.tuple #[.agg #[.int .i64 (-1), .int .i64 0, .int .i64 0, .int .i64 129, .int .i64 155, .string (ba wText), .string (ba wHtml), .slice A n c, .string (ba wB64)], .bool true]) ∧ Pars w' w'.heap.size A n exP.typ.params ∧ Below W.heap.size W w' from fun W hW => whole_any exS exP W (by omega) hW ex_part)
 have HBY := Lib.hid (show ∀ W A n c, Tabs W → Calls Tryz.prog 13 #[.string (ba exS), .agg #[.int .i64 (-1), .int .i64 0, .int .i64 0, .int .i64 129, .int .i64 155, .string (ba wText), .string (ba wHtml), .slice A n c, .string (ba wB64)]] W (StrB W [60, 98, 62, 233, 60, 47, 98, 62, 60, 98, 114, 62, 38, 108, 116, 59]) from fun W A n c hW => by rw [← ex_bytes]; exact bytes_any exS exP A n c W (by omega) hW)
 have HTX := Lib.hid (show ∀ W A n c, Tabs W → EntM W → Pars W W.heap.size A n exP.typ.params → Calls Tryz.prog 15 #[.string (ba exS), .agg #[.int .i64 (-1), .int .i64 0, .int .i64 0, .int .i64 129, .int .i64 155, .string (ba wText), .string (ba wHtml), .slice A n c, .string (ba wB64)]] W (StrB W [195, 169, 10, 60]) from fun W A n c hW hE hP => by rw [← ex_text]; exact text_any exS exP A n c W (by omega) hP (by decide) hp1 hp2 hW hE)
 have HNM := Lib.hid (show ∀ W A n c, Tabs W → Pars W W.heap.size A n exP.typ.params → Calls Tryz.prog 17 #[.string (ba exS), .agg #[.int .i64 (-1), .int .i64 0, .int .i64 0, .int .i64 129, .int .i64 155, .string (ba wText), .string (ba wHtml), .slice A n c, .string (ba wB64)]] W (StrB W [102, 46, 120]) from fun W A n c hW hP => by rw [← ex_name]; exact name_any exS exP A n c W hsl hP (by decide) hp1 hp3 hW)
 have HAT := Lib.hid (show ∀ W A n c, Tabs W → Pars W W.heap.size A n exP.typ.params → Calls Tryz.prog 19 #[.string (ba exS), .agg #[.int .i64 (-1), .int .i64 0, .int .i64 0, .int .i64 129, .int .i64 155, .string (ba wText), .string (ba wHtml), .slice A n c, .string (ba wB64)]] W (fun e w' => e = .returned (.bool false) ∧ Below W.heap.size W w') from fun W A n c hW hP => by rw [← ex_att]; exact attached_any exS exP A n c W hsl hP (by decide) hp1 hp3 hW)
 have HST := Lib.hid (show ∀ W, Tabs W → EntM W → Calls Tryz.prog 21 #[.string ⟨#[97, 60, 98, 114, 62, 98, 32, 38, 108, 116, 59, 99, 38, 103, 116, 59, 60, 33, 45, 45, 32, 100, 32, 45, 45, 62, 60, 32, 38, 35, 120, 52, 49, 59, 38, 110, 111, 59, 60, 115, 116, 121, 108, 101, 62, 120, 60, 47, 83, 84, 89, 76, 69, 32, 62, 121]⟩] W (StrB W [97, 10, 98, 32, 60, 99, 62, 60, 32, 65, 38, 110, 111, 59, 121]) from fun W hW hE => by rw [← ex_strip]; exact strip_any exT W (by decide) hW hE)
 unfold StrB at HBY HTX HNM HST
 have n1 : (ba [60, 98, 62, 233, 60, 47, 98, 62, 60, 98, 114, 62, 38, 108, 116, 59]).toList = [60, 98, 62, 233, 60, 47, 98, 62, 60, 98, 114, 62, 38, 108, 116, 59] := ba_toList _
 have n2 : (ba [195, 169, 10, 60]).toList = [195, 169, 10, 60] := ba_toList _
 have n3 : (ba [102, 46, 120]).toList = [102, 46, 120] := ba_toList _
 have n4 : (ba [97, 10, 98, 32, 60, 99, 62, 60, 32, 65, 38, 110, 111, 59, 121]).toList = [97, 10, 98, 32, 60, 99, 62, 60, 32, 65, 38, 110, 111, 59, 121] := ba_toList _
 clear hT hE hpl hp1 hp2 hp3 hsl
 obtain ⟨S, hS⟩ : ∃ S, ba exS = S := ⟨_, rfl⟩
 rw [hS] at HWH HBY HTX HNM HAT
 have HS := Lib.hid hS
 clear hS
 go_enter Tryz.func10, Tryz.ntmps10
 go_wp2_with fail
 rw [show (⟨#[67, 111, 110, 116, 101, 110, 116, 45, 84, 121, 112, 101, 58, 32, 116, 101, 120, 116, 47, 104, 116, 109, 108, 59, 32, 99, 104, 97, 114, 115, 101, 116, 61, 108, 97, 116, 105, 110, 49, 59, 32, 110, 97, 109, 101, 61, 110, 13, 10, 67, 111, 110, 116, 101, 110, 116, 45, 84, 114, 97, 110, 115, 102, 101, 114, 45, 69, 110, 99, 111, 100, 105, 110, 103, 58, 32, 66, 97, 115, 101, 54, 52, 13, 10, 67, 111, 110, 116, 101, 110, 116, 45, 68, 105, 115, 112, 111, 115, 105, 116, 105, 111, 110, 58, 32, 105, 110, 108, 105, 110, 101, 59, 32, 102, 105, 108, 101, 110, 97, 109, 101, 61, 102, 46, 120, 13, 10, 13, 10, 80, 71, 73, 43, 54, 84, 119, 118, 13, 10, 89, 106, 52, 56, 89, 110, 73, 43, 74, 109, 120, 48, 79, 119, 61, 61]⟩ : ByteArray) = S from HS.out]
 refine (HWH.out w HT.out).mono ?_
 rintro e w1 ⟨A, n, c, rfl, hP1, hb1⟩
 have HBX := Lib.hid (show Below w1.heap.size w1 (w1.alloc (.cells #[.int .i64 (-1), .int .i64 0, .int .i64 0, .int .i64 129, .int .i64 155, .string (ba wText), .string (ba wHtml), .slice A n c, .string (ba wB64)] 26)) from (Below.refl _ _).alloc (Nat.le_refl _) _)
 have hx1 := (MapKept.heap_alloc w1 (.cells #[.int .i64 (-1), .int .i64 0, .int .i64 0, .int .i64 129, .int .i64 155, .string (ba wText), .string (ba wHtml), .slice A n c, .string (ba wB64)] 26)).1
 have HX1 := Lib.hid hx1
 have b0 := cells_at HX1.out 0 (u := .int .i64 (-1)) rfl
 have b1 := cells_at HX1.out 1 (u := .int .i64 0) rfl
 have b2 := cells_at HX1.out 2 (u := .int .i64 0) rfl
 have b3 := cells_at HX1.out 3 (u := .int .i64 129) rfl
 have b4 := cells_at HX1.out 4 (u := .int .i64 155) rfl
 have b5 := cells_at HX1.out 5 (u := .string (ba wText)) rfl
 have b6 := cells_at HX1.out 6 (u := .string (ba wHtml)) rfl
 have b7 := cells_at HX1.out 7 (u := .slice A n c) rfl
 have b8 := cells_at HX1.out 8 (u := .string (ba wB64)) rfl
 have HB1 := Lib.hid (hb1.trans (HBX.out.mono hb1.size))
 have HP1 := Lib.hid ((hP1.below HBX.out).more (B' := (w1.alloc (.cells #[.int .i64 (-1), .int .i64 0, .int .i64 0, .int .i64 129, .int .i64 155, .string (ba wText), .string (ba wHtml), .slice A n c, .string (ba wB64)] 26)).heap.size) HBX.out.size)
 clear hb1 hP1 hx1
 go_wp2_with fail
 refine (HBY.out _ A n c (HT.out.below HB1.out)).mono ?_
 rintro e w2 ⟨rfl, hb2⟩
 have HX2 := Lib.hid ((hb2.block _ (heap_lt HX1.out)).trans HX1.out)
 have HB2 := Lib.hid (HB1.out.trans (hb2.mono HB1.out.size))
 have HP2 := Lib.hid ((HP1.out.below hb2).more hb2.size)
 clear b0 b1 b2 b3 b4 b5 b6 b7 b8 hb2
 have c0 := cells_at HX2.out 0 (u := .int .i64 (-1)) rfl
 have c1 := cells_at HX2.out 1 (u := .int .i64 0) rfl
 have c2 := cells_at HX2.out 2 (u := .int .i64 0) rfl
 have c3 := cells_at HX2.out 3 (u := .int .i64 129) rfl
 have c4 := cells_at HX2.out 4 (u := .int .i64 155) rfl
 have c5 := cells_at HX2.out 5 (u := .string (ba wText)) rfl
 have c6 := cells_at HX2.out 6 (u := .string (ba wHtml)) rfl
 have c7 := cells_at HX2.out 7 (u := .slice A n c) rfl
 have c8 := cells_at HX2.out 8 (u := .string (ba wB64)) rfl
 go_wp2_with fail
 refine (HTX.out _ A n c (HT.out.below HB2.out) (HE.out.below HB2.out) HP2.out).mono ?_
 rintro e w3 ⟨rfl, hb3⟩
 have HX3 := Lib.hid ((hb3.block _ (heap_lt HX2.out)).trans HX2.out)
 have HB3 := Lib.hid (HB2.out.trans (hb3.mono HB2.out.size))
 have HP3 := Lib.hid ((HP2.out.below hb3).more hb3.size)
 clear c0 c1 c2 c3 c4 c5 c6 c7 c8 hb3
 have d0 := cells_at HX3.out 0 (u := .int .i64 (-1)) rfl
 have d1 := cells_at HX3.out 1 (u := .int .i64 0) rfl
 have d2 := cells_at HX3.out 2 (u := .int .i64 0) rfl
 have d3 := cells_at HX3.out 3 (u := .int .i64 129) rfl
 have d4 := cells_at HX3.out 4 (u := .int .i64 155) rfl
 have d5 := cells_at HX3.out 5 (u := .string (ba wText)) rfl
 have d6 := cells_at HX3.out 6 (u := .string (ba wHtml)) rfl
 have d7 := cells_at HX3.out 7 (u := .slice A n c) rfl
 have d8 := cells_at HX3.out 8 (u := .string (ba wB64)) rfl
 go_wp2_with fail
 refine (HNM.out _ A n c (HT.out.below HB3.out) HP3.out).mono ?_
 rintro e w4 ⟨rfl, hb4⟩
 have HX4 := Lib.hid ((hb4.block _ (heap_lt HX3.out)).trans HX3.out)
 have HB4 := Lib.hid (HB3.out.trans (hb4.mono HB3.out.size))
 have HP4 := Lib.hid ((HP3.out.below hb4).more hb4.size)
 clear d0 d1 d2 d3 d4 d5 d6 d7 d8 hb4
 have e0 := cells_at HX4.out 0 (u := .int .i64 (-1)) rfl
 have e1 := cells_at HX4.out 1 (u := .int .i64 0) rfl
 have e2 := cells_at HX4.out 2 (u := .int .i64 0) rfl
 have e3 := cells_at HX4.out 3 (u := .int .i64 129) rfl
 have e4 := cells_at HX4.out 4 (u := .int .i64 155) rfl
 have e5 := cells_at HX4.out 5 (u := .string (ba wText)) rfl
 have e6 := cells_at HX4.out 6 (u := .string (ba wHtml)) rfl
 have e7 := cells_at HX4.out 7 (u := .slice A n c) rfl
 have e8 := cells_at HX4.out 8 (u := .string (ba wB64)) rfl
 go_wp2_with fail
 refine (HAT.out _ A n c (HT.out.below HB4.out) HP4.out).mono ?_
 rintro e w5 ⟨rfl, hb5⟩
 have HB5 := Lib.hid (HB4.out.trans (hb5.mono HB4.out.size))
 clear e0 e1 e2 e3 e4 e5 e6 e7 e8 hb5
 go_wp2_with fail
 refine (HST.out _ (HT.out.below HB5.out) (HE.out.below HB5.out)).mono ?_
 rintro e w6 ⟨rfl, hb6⟩
 have HB6 := Lib.hid (HB5.out.trans (hb6.mono HB5.out.size))
 clear hb6
 go_wp2
 go_ret
 exact ⟨rfl, HB6.out⟩
end Go.Proofs.YthidbmeaccpjdaaGreatDoor
end
section
namespace Go.Proofs.YthidbmeaccpjdaaGreatDoor
open Go.RowKit
set_option linter.unusedVariables false
theorem tags_not {c : UInt8} (h : c ≠ 60) (l : List UInt8) : tagsB (c :: l) = false := by
 cases l with
 | nil => rfl
 | cons d r => unfold tagsB; simp [h]
theorem strip_app : ∀ (a r : List UInt8), (∀ c ∈ a, c ≠ 60 ∧ c ≠ 38) → stripP (a ++ r) = a ++ stripP r
 | [], r, _ => rfl
 | c :: t, r, h => by
  have h1 := h c (List.mem_cons_self ..)
  rw [List.cons_append, stripP_byte (tags_not h1.1 _) (fun e => absurd e h1.2), strip_app t r (fun x hx => h x (List.mem_cons_of_mem _ hx))]
  rfl
theorem strip_plain (a : List UInt8) (h : ∀ c ∈ a, c ≠ 60 ∧ c ≠ 38) : stripP a = a := by
 have := strip_app a [] h
 rw [List.append_nil, stripP_nil, List.append_nil] at this
 exact this
theorem index_at : ∀ (a : List UInt8) (x : UInt8) (m r : List UInt8), x ∉ a → Lib.index (a ++ x :: (m ++ r)) (x :: m) = a.length
 | [], x, m, r, _ => by
  show Lib.index (x :: (m ++ r)) (x :: m) = 0
  unfold Lib.index
  rw [if_pos (by simp)]
 | c :: t, x, m, r, h => by
  have ih := index_at t x m r (fun e => h (List.mem_cons_of_mem _ e))
  have hc : x ≠ c := fun e => h (e ▸ List.mem_cons_self ..)
  rw [List.cons_append]
  unfold Lib.index
  rw [if_neg (by simp [hc]), ih, if_neg (by simp)]
  simp
theorem index_no : ∀ (a : List UInt8) (x : UInt8) (m : List UInt8), x ∉ a → Lib.index a (x :: m) = -1
 | [], x, m, _ => rfl
 | c :: t, x, m, h => by
  have ih := index_no t x m (fun e => h (List.mem_cons_of_mem _ e))
  have hc : x ≠ c := fun e => h (e ▸ List.mem_cons_self ..)
  unfold Lib.index
  rw [if_neg (by simp [hc]), ih]
  rfl
theorem behind_at (a : List UInt8) (x : UInt8) (m r : List UInt8) (h : x ∉ a) : behindP (x :: m) (a ++ x :: (m ++ r)) = r := by
 unfold behindP Lib.cut
 rw [index_at a x m r h, if_pos (by omega)]
 show List.drop _ _ = r
 rw [show ((a.length : Int).toNat + (x :: m).length) = (a ++ x :: m).length by simp, show a ++ x :: (m ++ r) = (a ++ x :: m) ++ r by simp, List.drop_left]
theorem small_no {x : UInt8} (h1 : ¬ (97 ≤ x ∧ x ≤ 122)) : ∀ {a : List UInt8}, x ∉ a → x ∉ smallP a := by
 intro a h e
 unfold smallP at e
 obtain ⟨c, hc, he⟩ := List.mem_map.1 e
 unfold smallB at he
 split at he
 ·rename_i hc2
  apply h1
  rw [← he]
  have e1 := hc2.1
  have e2 := hc2.2
  rw [UInt8.le_iff_toNat_le] at e1 e2 ⊢
  rw [UInt8.le_iff_toNat_le, UInt8.toNat_add]
  have z1 : (65 : UInt8).toNat = 65 := rfl
  have z2 : (90 : UInt8).toNat = 90 := rfl
  have z3 : (97 : UInt8).toNat = 97 := rfl
  have z4 : (122 : UInt8).toNat = 122 := rfl
  have z5 : (32 : UInt8).toNat = 32 := rfl
  omega
 ·exact h (he ▸ hc)
theorem smallP_app (a b : List UInt8) : smallP (a ++ b) = smallP a ++ smallP b := List.map_append
theorem strip_note (a w b : List UInt8) (ha : ∀ c ∈ a, c ≠ 60 ∧ c ≠ 38) (hw : ∀ c ∈ w, c ≠ 60 ∧ c ≠ 45) (hb : ∀ c ∈ b, c ≠ 60 ∧ c ≠ 38) : stripP ((((a ++ [60, 33, 45, 45]) ++ w) ++ [45, 45, 62]) ++ b) = a ++ b := by
 rw [show (((a ++ [60, 33, 45, 45]) ++ w) ++ [45, 45, 62]) ++ b = a ++ (60 :: ([33, 45, 45] ++ (w ++ 45 :: ([45, 62] ++ b)))) by simp, strip_app a _ ha, stripP_tag rfl]
 rw [tagP_note (by simp [List.isPrefixOf])]
 show a ++ ([] ++ stripP (behindP [45, 45, 62] (w ++ 45 :: ([45, 62] ++ b)))) = _
 rw [behind_at w 45 [45, 62] b (fun e => (hw _ e).2 rfl), strip_plain b hb]
 rfl
theorem strip_one (a b t n o : List UInt8) (en : Bool) (ha : ∀ c ∈ a, c ≠ 60 ∧ c ≠ 38) (hb : ∀ c ∈ b, c ≠ 60 ∧ c ≠ 38) (h1 : tagsB (60 :: (t ++ 62 :: b)) = true) (h2 : ([60, 33, 45, 45] : List UInt8).isPrefixOf (60 :: (t ++ 62 :: b)) = false) (h3 : nameTag (t ++ 62 :: b) = (n, en)) (h4 : en = true ∨ (n ≠ wScript ∧ n ≠ wStyle)) (h5 : (62 : UInt8) ∉ (60 :: t : List UInt8)) (h6 : (if n ∈ breakNames then [10] else []) = o) :
  stripP (a ++ (60 :: (t ++ 62 :: b))) = a ++ (o ++ b) := by
 have hr : behindP [62] (60 :: (t ++ 62 :: b)) = b := behind_at (60 :: t) 62 [] b h5
 rw [strip_app a _ ha, stripP_tag h1, tagP_plain h2 h3 hr h4, h6, strip_plain b hb]
theorem strip_par (a b : List UInt8) (ha : ∀ c ∈ a, c ≠ 60 ∧ c ≠ 38) (hb : ∀ c ∈ b, c ≠ 60 ∧ c ≠ 38) : stripP ((a ++ [60, 80, 62]) ++ b) = (a ++ [10]) ++ b := by
 rw [show (a ++ [60, 80, 62]) ++ b = a ++ (60 :: ([80] ++ 62 :: b)) by simp, strip_one a b [80] [112] [10] false ha hb rfl rfl rfl (by decide) (by decide) (by decide)]
 simp
theorem strip_bold (a b : List UInt8) (ha : ∀ c ∈ a, c ≠ 60 ∧ c ≠ 38) (hb : ∀ c ∈ b, c ≠ 60 ∧ c ≠ 38) : stripP ((a ++ [60, 47, 98, 32, 99, 62]) ++ b) = a ++ b := by
 rw [show (a ++ [60, 47, 98, 32, 99, 62]) ++ b = a ++ (60 :: ([47, 98, 32, 99] ++ 62 :: b)) by simp, strip_one a b [47, 98, 32, 99] [98] [] true ha hb rfl rfl rfl (by decide) (by decide) (by decide)]
 rfl
theorem strip_script (a w b : List UInt8) (ha : ∀ c ∈ a, c ≠ 60 ∧ c ≠ 38) (hw : (60 : UInt8) ∉ w) (hb : ∀ c ∈ b, c ≠ 60 ∧ c ≠ 38) : stripP ((((a ++ [60, 83, 99, 114, 105, 112, 116, 32, 120, 62]) ++ w) ++ [60, 47, 115, 67, 82, 73, 80, 84, 62]) ++ b) = a ++ b := by
 rw [show (((a ++ [60, 83, 99, 114, 105, 112, 116, 32, 120, 62]) ++ w) ++ [60, 47, 115, 67, 82, 73, 80, 84, 62]) ++ b = a ++ (60 :: ([83, 99, 114, 105, 112, 116, 32, 120] ++ 62 :: (w ++ 60 :: ([47, 115, 67, 82, 73, 80, 84] ++ 62 :: b)))) by simp]
 have hr : behindP [62] (60 :: ([83, 99, 114, 105, 112, 116, 32, 120] ++ 62 :: (w ++ 60 :: ([47, 115, 67, 82, 73, 80, 84] ++ 62 :: b)))) = w ++ 60 :: ([47, 115, 67, 82, 73, 80, 84] ++ 62 :: b) := behind_at [60, 83, 99, 114, 105, 112, 116, 32, 120] 62 [] _ (by decide)
 have hi : Lib.index (smallP (w ++ 60 :: ([47, 115, 67, 82, 73, 80, 84] ++ 62 :: b))) ([60, 47] ++ wScript) = w.length := by
  rw [smallP_app]
  have h := index_at (smallP w) 60 ([47] ++ wScript) (62 :: smallP b) (small_no (by decide) hw)
  rw [smallP_len] at h
  rw [← h]
  rfl
 rw [strip_app a _ ha, stripP_tag rfl, tagP_raw rfl (show nameTag _ = (wScript, false) from rfl) hr (by decide), hi, if_neg (by omega)]
 show a ++ ((if wScript ∈ breakNames then [10] else []) ++ stripP (List.drop w.length (w ++ _))) = _
 rw [List.drop_left, if_neg (by decide)]
 have h := strip_one [] b [47, 115, 67, 82, 73, 80, 84] wScript [] true (fun c h => by cases h) hb rfl rfl rfl (.inl rfl) (by decide) (by decide)
 rw [List.nil_append] at h
 show a ++ ([] ++ stripP (60 :: ([47, 115, 67, 82, 73, 80, 84] ++ 62 :: b))) = _
 rw [h]
 rfl
theorem strip_style (a w : List UInt8) (ha : ∀ c ∈ a, c ≠ 60 ∧ c ≠ 38) (hw : (60 : UInt8) ∉ w) : stripP ((a ++ [60, 115, 116, 121, 108, 101, 62]) ++ w) = a := by
 rw [show (a ++ [60, 115, 116, 121, 108, 101, 62]) ++ w = a ++ (60 :: ([115, 116, 121, 108, 101] ++ 62 :: w)) by simp]
 have hr : behindP [62] (60 :: ([115, 116, 121, 108, 101] ++ 62 :: w)) = w := behind_at [60, 115, 116, 121, 108, 101] 62 [] _ (by decide)
 have hi : Lib.index (smallP w) ([60, 47] ++ wStyle) = -1 := index_no _ _ _ (small_no (by decide) hw)
 rw [strip_app a _ ha, stripP_tag rfl, tagP_raw rfl (show nameTag _ = (wStyle, false) from rfl) hr (by decide), hi, if_pos (by omega)]
 rw [if_neg (by decide)]
 show a ++ ([] ++ stripP []) = a
 rw [stripP_nil]
 simp
def markP : List UInt8 → List UInt8
 | [] => []
 | c :: r => (if c = 38 then [38, 97, 109, 112, 59] else if c = 60 then [38, 108, 116, 59] else [c]) ++ markP r
theorem strip_mark : ∀ l, stripP (markP l) = l
 | [] => rfl
 | c :: r => by
  have ih := strip_mark r
  unfold markP
  by_cases h1 : c = 38
  ·rw [if_pos h1, show ([38, 97, 109, 112, 59] : List UInt8) ++ markP r = 38 :: ([97, 109, 112, 59] ++ markP r) from rfl, stripP_ent (a := [38]) (b := markP r) (tags_not (by decide) _) rfl rfl, ih, h1]
   rfl
  ·rw [if_neg h1]
   by_cases h2 : c = 60
   ·rw [if_pos h2, show ([38, 108, 116, 59] : List UInt8) ++ markP r = 38 :: ([108, 116, 59] ++ markP r) from rfl, stripP_ent (a := [60]) (b := markP r) (tags_not (by decide) _) rfl rfl, ih, h2]
    rfl
   ·rw [if_neg h2, List.singleton_append, stripP_byte (tags_not h2 _) (fun e => absurd e h1), ih]
end Go.Proofs.YthidbmeaccpjdaaGreatDoor
end
