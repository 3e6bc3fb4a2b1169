/- Layer 6: the contracts of byteAt, unescape and UnQ. strings.Builder: the contract of Write (a row of bytes). Layer 6: the contract of values (the table of base64). Layer 6: the contract of UnB64. -/
import Derived.Deep.WholeRow
import Derived.Laws.BitsLemmas
import Derived.Test.YthidbmeaccpjdaaGreatDoorM18
import Derived.Test.YthidbmeaccpjdaaGreatDoorM06
import Derived.Test.YthidbmeaccpjdaaGreatDoorM08
import Derived.Test.YthidbmeaccpjdaaGreatDoorM03
import Derived.Test.YthidbmeaccpjdaaGreatDoorM02
section
namespace Go.Proofs.YthidbmeaccpjdaaGreatDoor
open Go.RowKit
set_option linter.unusedVariables false
theorem escB_short : ∀ {l : List UInt8}, l.length < 3 → escB l = none
 | [], _ => rfl
 | [_], _ => rfl
 | [_, _], _ => rfl
 | _ :: _ :: _ :: _, h => by simp at h; omega
theorem escB_not {c : UInt8} (h : c ≠ 61) (t : List UInt8) : escB (c :: t) = none := by
 unfold escB
 split
 ·rename_i heq
  injection heq with h1 h2
  subst h1
  rw [if_neg h]
 ·rfl
def byteV (l : List UInt8) : List UInt8 × Bool := ((escB l).elim [] (fun x => [x]), (escB l).isSome)
theorem byteV_no {l : List UInt8} (h : escB l = none) : byteV l = ([], false) := by unfold byteV; rw [h]; rfl
theorem byteV_hex {c : UInt8} {r : List UInt8} (h : c = 61) (hr : ¬ (c :: r).length < 3) : ((unhexP (((c :: r).take 3).drop 1)).getD [], (unhexP (((c :: r).take 3).drop 1)).isSome) = byteV (c :: r) := by
 subst h
 match r, hr with
 | a :: b :: t, _ =>
  have e : escB (61 :: a :: b :: t) = (match hexV a, hexV b with
   | some x, some y => some (UInt8.ofNat (x * 16 + y))
   | _, _ => none) := by
   simp only [escB, if_true]
   rfl
  unfold byteV
  rw [e]
  show ((unhexP [a, b]).getD [], (unhexP [a, b]).isSome) = _
  unfold unhexP
  cases hexV a with
  | none => rfl
  | some x =>
   cases hexV b with
   | none => rfl
   | some y => rfl
 | [a], h => simp at h
 | [], h => simp at h
def BytePost (w : World) (l : List UInt8) (e : Ending) (w' : World) : Prop := e = .returned (.tuple #[.string (ba (byteV l).1), .bool (byteV l).2]) ∧ Below w.heap.size w w'
set_option maxRecDepth 100000 in
set_option maxHeartbeats 4000000 in
theorem byteAt_any (l : List UInt8) (w : World) (hl : l.length ≤ 1000000000) :
  Calls Tryz.prog 158 #[.string (ba l)] w (BytePost w l) := by
 unfold BytePost
 by_cases h3 : l.length < 3
 ·rw [byteV_no (escB_short h3)]
  obtain ⟨n, hn⟩ : ∃ n, l.length = n := ⟨_, rfl⟩
  have HL := Lib.hid hn
  obtain ⟨s, hs⟩ : ∃ s, ba l = s := ⟨_, rfl⟩
  have HS := Lib.hid hs
  have HZ := Lib.hid (show s.size = n by rw [← hs, ba_size, hn])
  have hsz : (s.size : Int) = n := by rw [HZ.out]
  rw [hs]
  rw [hn] at hl h3
  clear hs hn
  have g1 : decide ((n : Int) < 3) = true := decide_eq_true (by omega)
  go_enter Tryz.func158, Tryz.ntmps158
  go_wp2
  go_ret2
  exact ⟨rfl, Below.refl _ _⟩
 ·obtain ⟨c, r, rfl⟩ : ∃ c r, l = c :: r := by
   cases l with
   | nil => exact absurd (by decide) h3
   | cons c r => exact ⟨c, r, rfl⟩
  have HUN := Lib.hid (fun W => unhex_any (((c :: r).take 3).drop 1) W (by rw [List.length_drop, List.length_take]; omega))
  unfold UnhexPost at HUN
  have HV := Lib.hid (fun h => byteV_hex (c := c) (r := r) h h3)
  have HNO := Lib.hid (fun h => byteV_no (escB_not (c := c) h r))
  have hx0 : (ba (c :: r)).extract 1 3 = ba (((c :: r).take 3).drop 1) := ba_cut _ _ _
  obtain ⟨q, hq⟩ : ∃ q, ((c :: r).take 3).drop 1 = q := ⟨_, rfl⟩
  rw [hq] at hx0
  simp only [hq] at HUN HV
  obtain ⟨x, hx⟩ : ∃ x : Int, (c.toNat : Int) = x := ⟨_, rfl⟩
  have hgi : ∃ h : 0 < (ba (c :: r)).size, (((ba (c :: r))[0]'h).toNat : Int) = x := ⟨by rw [ba_size]; simp, hx⟩
  have HX := Lib.hid hx
  obtain ⟨bv, hbv⟩ : ∃ v, byteV (c :: r) = v := ⟨_, rfl⟩
  simp only [hbv] at HV HNO
  rw [hbv]
  clear hq hx hbv
  obtain ⟨n, hn⟩ : ∃ n, (c :: r).length = n := ⟨_, rfl⟩
  obtain ⟨s, hs⟩ : ∃ s, ba (c :: r) = s := ⟨_, rfl⟩
  have hsz : (s.size : Int) = n := by rw [← hs, ba_size, hn]
  rw [hs] at hx0 hgi ⊢
  rw [hn] at h3 hl
  clear hs hn
  obtain ⟨hz0, hgj⟩ := hgi
  have g1 : decide ((n : Int) < 3) = false := decide_eq_false (by omega)
  have h3i : (3 : Int) ≤ (n : Int) := by omega
  by_cases e : c = 61
  ·have HVV := Lib.hid (HV.out e)
   have g2 : (x == 61) = true := by subst e; rw [← HX.out]; rfl
   have HX0 := Lib.hid hx0
   clear e HNO HX HV hx0
   go_enter Tryz.func158, Tryz.ntmps158
   go_wp2_with fail
   rw [HX0.out]
   refine (HUN.out _).mono ?_
   rintro e w2 ⟨rfl, hb⟩
   have HB := Lib.hid hb
   clear hb
   go_wp2
   go_ret2
   refine ⟨?_, HB.out⟩
   rw [← HVV.out]
   rfl
  ·have HVV := Lib.hid (HNO.out e)
   have g2 : (x == 61) = false := by
    rw [← HX.out, beq_eq_false_iff_ne]
    intro h
    exact e (UInt8.toNat_inj.1 (by have : (61 : UInt8).toNat = 61 := rfl; omega))
   clear e HV HX HNO hx0 HUN
   go_enter Tryz.func158, Tryz.ntmps158
   go_wp2
   go_ret2
   rw [HVV.out]
   exact ⟨rfl, Below.refl _ _⟩
structure UqRel (w : World) (l r : List UInt8) (wr : World) : Prop where
 ex : ∃ acc, Bld wr w.heap.size w.heap.size acc ∧ acc ++ unqP r = unqP l ∧ acc.length + r.length ≤ l.length
 bel : Below w.heap.size w wr
set_option maxRecDepth 100000 in
set_option maxHeartbeats 4000000 in
theorem unescape_any (l : List UInt8) (w : World) (hl : l.length ≤ 1000000000) :
  Calls Tryz.prog 86 #[.string (ba l)] w (StrB w (unqP l)) := by
 have HB0 := Lib.hid (bld_new w)
 have HL := Lib.hid hl
 obtain ⟨L, hL⟩ : ∃ L, l = L := ⟨_, rfl⟩
 have HREL := Lib.hid (show ∀ wr, wr = w.alloc (.cells #[.pointer none, .slice none 0 0] 64) → UqRel w l l wr from by
  rintro wr rfl
  exact ⟨⟨[], HB0.out, rfl, by simp⟩, (Below.refl _ _).alloc (Nat.le_refl _) _⟩)
 clear hl
 rw [hL]
 rw [hL] at HREL HL
 clear hL HB0
 go_enter Tryz.func86, Tryz.ntmps86
 go_wp2
 go_loopw [0, 4, 5] (fun s a b wr => ∃ (r : List UInt8) (y z : Value), a = y ∧ b = z ∧ s = .string (ba r) ∧ Hid (UqRel w L r wr)) (fun s _ _ _ => Lib.strSize s)
 case atStart => exact ⟨L, _, _, rfl, rfl, rfl, Lib.hid (HREL.out _ rfl)⟩
 case round =>
  obtain ⟨r, y, z, rfl, rfl, rfl, HR⟩ := hrel
  obtain ⟨acc, hbld, heq, hal⟩ := HR.out.ex
  have HBL := Lib.hid hbld
  have HEQ := Lib.hid heq
  have HBE := Lib.hid HR.out.bel
  have hszr := HR.out.bel.size
  have HAL := Lib.hid hal
  have hrl : r.length ≤ 1000000000 := by have := HL.out; omega
  have hac : acc.length ≤ 1000000000 := by have := HL.out; omega
  clear hbld heq hal HR
  cases r with
  | nil =>
   have g1 : (ba ([] : List UInt8)).toList.isEmpty = true := by rw [ba_toList]; rfl
   have HE := Lib.hid (show acc = unqP L by rw [← HEQ.out, unqP_nil, List.append_nil])
   go_wp2_with fail
   refine (bld_string _ _ _ wr HBL.out hszr).mono ?_
   rintro e w2 ⟨rfl, hW⟩
   have HW := Lib.hid hW
   clear hW
   go_wp2
   go_ret
   exact str_fin (by rw [HE.out]) (HBE.out.trans HW.out.bel)
  | cons c r =>
   have g1 : (ba (c :: r)).toList.isEmpty = false := by rw [ba_toList]; rfl
   have HBY := Lib.hid (byteAt_any (c :: r) wr hrl)
   unfold BytePost at HBY
   have hx3 : (ba (c :: r)).extract 3 (ba (c :: r)).size = ba ((c :: r).drop 3) := ba_drop _ _
   have hx1 : (ba (c :: r)).extract 1 (ba (c :: r)).size = ba r := ba_drop _ _
   have HX3 := Lib.hid hx3
   have HX1 := Lib.hid hx1
   have HZ0 := Lib.hid (show (ba (c :: r)).size = r.length + 1 by rw [ba_size]; rfl)
   have HZR := Lib.hid (show (ba r).size = r.length by rw [ba_size])
   cases he : escB (c :: r) with
   | none =>
    have HU := Lib.hid (unqP_skip he)
    rw [byteV_no he] at HBY
    clear he
    have hz0 : 0 < (ba (c :: r)).size := by rw [HZ0.out]; omega
    have h1i : (1 : Int) ≤ ((ba (c :: r)).size : Int) := by rw [HZ0.out]; omega
    have hgi : ∃ h : 0 < (ba (c :: r)).size, (((ba (c :: r))[0]'h).toNat : Int) = (c.toNat : Int) := ⟨hz0, rfl⟩
    have hxx := HX1.out
    obtain ⟨s, hs⟩ : ∃ s, ba (c :: r) = s := ⟨_, rfl⟩
    rw [hs] at HZ0 hxx h1i g1 hgi
    simp only [hs] at HBY
    rw [hs]
    clear hs hx3 hx1 HX3 HX1 hz0
    obtain ⟨hz0, hgj⟩ := hgi
    go_wp2_with fail
    refine HBY.out.mono ?_
    rintro e w2 ⟨rfl, hb2⟩
    have HB2 := Lib.hid hb2
    clear hb2
    have HWB := Lib.hid (write_byte _ _ acc c w2 (HBL.out.below HB2.out) (by omega) (Nat.le_trans hszr HB2.out.size))
    go_wp2_with fail
    refine HWB.out.mono ?_
    rintro e w3 ⟨rfl, hW⟩
    have HN := Lib.hid (show UqRel w L r w3 from ⟨⟨acc ++ [c], hW.bld, by rw [← HEQ.out, HU.out]; simp, by have := HAL.out; simp at this ⊢; omega⟩, (HBE.out.trans (HB2.out.mono hszr)).trans hW.bel⟩)
    clear hW
    go_wp2
    go_roundw
    case rel => exact ⟨r, _, _, rfl, rfl, rfl, HN⟩
    case measure => rw [Lib.strSize_string, Lib.strSize_string, HZ0.out, HZR.out]; omega
   | some x =>
    have HU := Lib.hid (unqP_hit he)
    have hlen3 : 3 ≤ r.length + 1 := by
     have : ¬ (c :: r).length < 3 := fun h => by rw [escB_short h] at he; cases he
     simp at this
     omega
    rw [show byteV (c :: r) = ([x], true) by unfold byteV; rw [he]; rfl] at HBY
    clear he
    have h3i : (3 : Int) ≤ ((ba (c :: r)).size : Int) := by rw [HZ0.out]; omega
    have hxx : (ba (c :: r)).extract 3 (ba (c :: r)).size = ba (r.drop 2) := HX3.out
    have HZ2 := Lib.hid (show (ba (r.drop 2)).size = r.length - 2 by rw [ba_size, List.length_drop])
    obtain ⟨s, hs⟩ : ∃ s, ba (c :: r) = s := ⟨_, rfl⟩
    rw [hs] at HZ0 hxx h3i g1
    simp only [hs] at HBY
    rw [hs]
    clear hs hx3 hx1 HX3 HX1
    go_wp2_with fail
    refine HBY.out.mono ?_
    rintro e w2 ⟨rfl, hb2⟩
    have HB2 := Lib.hid hb2
    clear hb2
    have HWB := Lib.hid (write_string _ _ acc [x] w2 (HBL.out.below HB2.out) (by simp; omega) (Nat.le_trans hszr HB2.out.size))
    go_wp2_with fail
    refine HWB.out.mono ?_
    rintro e w3 ⟨rfl, hW⟩
    have HN := Lib.hid (show UqRel w L (r.drop 2) w3 from ⟨⟨acc ++ [x], hW.bld, by rw [← HEQ.out, HU.out]; simp, by have := HAL.out; simp at this ⊢; omega⟩, (HBE.out.trans (HB2.out.mono hszr)).trans hW.bel⟩)
    clear hW
    go_wp2
    go_roundw
    case rel => exact ⟨r.drop 2, _, _, rfl, rfl, rfl, HN⟩
    case measure => rw [Lib.strSize_string, Lib.strSize_string, HZ0.out, HZ2.out]; omega
theorem under_eq : ∀ (l : List UInt8), repA [95] [32] l = l.map fun c => if c = 95 then 32 else c
 | [] => repA_nil (by simp)
 | c :: r => by
  by_cases he : c = 95
  ·subst he
   have h3 := repA_hit (old := [95]) (new := [32]) (s := r) (by simp)
   simp only [List.cons_append, List.nil_append] at h3
   rw [h3, under_eq r]
   rfl
  ·rw [repA_skip (by simp) (occ_head he), under_eq r, List.map_cons, if_neg he]
set_option maxRecDepth 100000 in
set_option maxHeartbeats 4000000 in
theorem unq_any (l : List UInt8) (w : World) (hl : l.length ≤ 1000000000) (hT : Tabs w) :
  Calls Tryz.prog 171 #[.string (ba l)] w (StrB w (unqQ l)) := by
 have HRE := Lib.hid (show Calls Tryz.prog 44 #[.string (ba l), .string ⟨#[95]⟩, .string ⟨#[32]⟩] w (StrB w (l.map fun c => if c = 95 then 32 else c)) by
  obtain ⟨m, hm⟩ := hT.max
  refine (Tryz.strings_ReplaceAll (ba l) ⟨#[95]⟩ ⟨#[32]⟩ m w (by rw [ba_size]; omega) hm (by decide) (by rw [ba_size]; have := Lib.count_le l [95]; show l.length + Lib.count l [95] * 1 ≤ _; omega)).mono ?_
  rintro e w' ⟨rfl, hb⟩
  refine ⟨?_, hb⟩
  rw [ba_list]
  have e1 : Lib.replaceAll l (⟨#[95]⟩ : ByteArray).data.toList (⟨#[32]⟩ : ByteArray).data.toList = repA [95] [32] l := replaceAll_eq (by decide) l
  rw [e1, under_eq]
  rfl)
 have HUE := Lib.hid (fun W => unescape_any (l.map fun c => if c = 95 then 32 else c) W (by rw [List.length_map]; exact hl))
 unfold StrB at HRE HUE
 clear hT
 go_enter Tryz.func171, Tryz.ntmps171
 go_wp2_with fail
 refine HRE.out.mono ?_
 rintro e w1 ⟨rfl, hb1⟩
 have HB1 := Lib.hid hb1
 clear hb1
 go_wp2_with fail
 refine (HUE.out w1).mono ?_
 rintro e w2 ⟨rfl, hb2⟩
 have HB2 := Lib.hid (HB1.out.trans (hb2.mono HB1.out.size))
 clear hb2
 go_wp2
 go_ret
 exact ⟨rfl, HB2.out⟩
end Go.Proofs.YthidbmeaccpjdaaGreatDoor
end
section
namespace Go.Proofs.YthidbmeaccpjdaaGreatDoor
open Go.RowKit
set_option linter.unusedVariables false
def CheckPost3 (w : World) (B b : Nat) (bs : List Value) (e : Ending) (w' : World) : Prop := e = .returned (.tuple #[]) ∧ Lib.BuilderAtF 64 5 B b (.pointer (some ⟨b, 0, none⟩)) bs w' ∧ Below B w w' ∧ Lib.OthersKept 5 (some b) w w' ∧ ∀ k, k ≠ b → w'.heap[k]? = w.heap[k]?
theorem check_any3 (B b : Nat) (bs : List Value) (w : World) (h : Lib.IsBuilderF 64 5 B b bs w) : Calls Tryz.prog 116 #[.pointer (some ⟨b, 0, none⟩)] w (CheckPost3 w B b bs) := by
 rcases h with h | h
 ·refine (check_fresh b w h.cell0 h.shape h.frozen0).mono ?_
  rintro e w' ⟨rfl, rfl⟩
  exact ⟨rfl, h.used _, (Below.refl B w).setCell (p := ⟨b, 0, none⟩) h.1 _, (Lib.OthersKept.refl _ _ w).setCell ⟨b, 0, none⟩ rfl _, fun k hk => heap_setCell_other w ⟨b, 0, none⟩ k _ hk⟩
 ·refine (check_used b w h.cell0).mono ?_
  rintro e w' ⟨rfl, rfl⟩
  exact ⟨rfl, h, Below.refl B _, Lib.OthersKept.refl _ _ _, fun _ _ => rfl⟩
set_option maxHeartbeats 2000000 in
set_option maxRecDepth 100000 in
theorem write_bytes (B b g c : Nat) (l t : List UInt8) (w : World) (h : Bld w B b l) (hlen : l.length + t.length ≤ 140737488355328) (hBw : B ≤ w.heap.size) (ht : ByteRow w g t) (hgb : g ≠ b) :
  Calls Tryz.prog 83 #[.pointer (some ⟨b, 0, none⟩), .slice (some ⟨g, 0, none⟩) t.length c] w (WrotePost w B b (l ++ t) (.tuple #[.int .i64 (t.length : Nat), .nilIface])) := by
 obtain ⟨i0, hi, hz0, hz1, hz2⟩ := info_parts info_byte
 obtain ⟨bs, hbs⟩ : ∃ x, Lib.byteCells l = x := ⟨_, rfl⟩
 have hbl : bs.length = l.length := by rw [← hbs, Lib.byteCells_length]
 unfold Bld at h
 rw [hbs] at h
 rw [← hbl] at hlen
 have HBS := Lib.hid hbs
 have H := Lib.hid h
 clear hbs hbl h
 have HT := Lib.hid ht
 obtain ⟨ts, hts⟩ : ∃ x, Lib.byteCells t = x := ⟨_, rfl⟩
 have htl : ts.length = t.length := by rw [← hts, Lib.byteCells_length]
 obtain ⟨m, hm⟩ : ∃ m, t.length = m := ⟨_, rfl⟩
 have HM := Lib.hid hm
 have HTS := Lib.hid hts
 rw [hm] at hlen htl ⊢
 have HTL := Lib.hid htl
 clear ht hts htl hm
 go_enter Tryz.func83, Tryz.ntmps83
 go_wp2_with fail
 refine (check_any3 B b bs _ H.out).mono ?_
 rintro e w1 ⟨rfl, h1, hb1, hk1, hst⟩
 obtain ⟨hB, v, hbk, hown, hne⟩ := h1
 have HT1 := Lib.hid (HT.out.kept (hst g hgb))
 clear hst
 have c0 : w1.cell? ⟨b, 0, none⟩ = some (.pointer (some ⟨b, 0, none⟩)) := by rw [Lib.cell_of_heap hbk]; rfl
 have c1 : w1.cell? ⟨b, 1, none⟩ = some v := by rw [Lib.cell_of_heap hbk]; rfl
 go_wp2_with (at_builtin; refine wpList_append_ownF _ rfl _ _ 62 rfl B 5 i0 (.int .u8 0) 1 1 Tryz.underlying62 hi hz0 hz1 hz2 rfl (by decide) _ _ _ rfl hown ⟨g, 0, none⟩ m c ts rfl (by rw [HTL.out, Nat.mul_one]) ?c1 ?c2 ?c3 ?c4 ?c5 ?_)
 case c1 =>
  intro j u hj
  rw [← HTS.out] at hj
  have hjl : j < t.length := by
   have := (List.getElem?_eq_some_iff.1 hj).1
   rwa [Lib.byteCells_length] at this
  have hc := HT1.out.cells j hjl
  rw [hc]
  have e : (Lib.byteCells t)[j]? = some (.int .u8 (t[j].toNat : Int)) := by unfold Lib.byteCells; simp [hjl]
  rw [e] at hj
  exact hj
 case c2 =>
  intro u hu
  rw [← HTS.out] at hu
  obtain ⟨c, _, rfl⟩ := List.mem_map.1 hu
  rfl
 case c3 => unfold maxLen; omega
 case c4 => omega
 case c5 => have := hb1.size; omega
 intro v' w2 hown' hgrow _
 have hlt : b < w1.heap.size := heap_lt hbk
 have hb2 : w2.heap[b]? = some (.cells #[.pointer (some ⟨b, 0, none⟩), v] 64 (0, 0)) := by
  rw [hgrow.block b hlt (fun e => hne e.symm)]
  exact hbk
 have d0 : w2.cell? ⟨b, 0, none⟩ = some (.pointer (some ⟨b, 0, none⟩)) := by rw [Lib.cell_of_heap hb2]; rfl
 have d1 : w2.cell? ⟨b, 1, none⟩ = some v := by rw [Lib.cell_of_heap hb2]; rfl
 have f1 : w2.frozen? ⟨b, 1, none⟩ = false := Lib.frozen_of_heap hb2 1
 obtain ⟨ao, n', cap, rfl⟩ : ∃ ao n' cap, v' = .slice ao n' cap := by
  rcases hown'.2 with ⟨hv, _⟩ | ⟨g, cap, cur, fz, hv, _⟩
  ·exact ⟨_, _, _, hv⟩
  ·exact ⟨_, _, _, hv⟩
 go_wp2
 go_ret2
 refine ⟨rfl, ?_, ?_, (hk1.grown hgrow (Lib.ownsRowF_kind hown)).setCell ⟨b, 1, none⟩ rfl _⟩
 ·have e1 : Lib.byteCells (l ++ t) = bs ++ ts := by rw [Lib.byteCells_append, HBS.out, HTS.out]
  unfold Bld
  rw [e1]
  exact .inr (Lib.BuilderAtF.put (T := 64) (e := 5) hB hb2 (bs' := bs ++ ts) (by simpa [HTL.out] using hown') (by decide))
 ·exact (hb1.grown hgrow (by have := hb1.size; omega) (fun k hk => (hown.lt k hk).1)).setCell (p := ⟨b, 1, none⟩) hB _
end Go.Proofs.YthidbmeaccpjdaaGreatDoor
end
section
namespace Go.Proofs.YthidbmeaccpjdaaGreatDoor
open Go.RowKit
set_option linter.unusedVariables false
theorem exec_load_arr {P : Program} {ev : Operand → Value} {o : Oper} {p : Operand} {T : TypeId} {ad : Addr} {n : Nat} {c : Array Value} {w : World} (ho : o.op = .load T p) (hp : ev p = .pointer (some ad)) (hag : ∀ w, (isAgg T).run P w = .ok true w) (hso : ∀ w, (sizeOf T).run P w = .ok n w) (h : (loadCellsFrom ad 0 n #[]).run P w = .ok c w) :
  (execOp ev o).run P w = .ok (.value (.agg c)) w := by
 simp [execOp, go_sem, ho, hp, hag, hso, h, Result.andThen]
theorem exec_store_arr {P : Program} {ev : Operand → Value} {o : Oper} {p x : Operand} {T : TypeId} {ad : Addr} {n : Nat} {c : Array Value} {w w' : World} (ho : o.op = .store T p x) (hp : ev p = .pointer (some ad)) (hx : ev x = .agg c) (hc : c.size = n) (hso : ∀ w, (sizeOf T).run P w = .ok n w) (h : (storeCells ad c.toList 0).run P w = .ok () w') :
  (execOp ev o).run P w = .ok .skip w' := by
 simp [execOp, go_sem, ho, hp, hx, hso, h, hc, Result.andThen]
theorem loadVar_arr {P : Program} {T : TypeId} {ad : Addr} {n : Nat} {c : Array Value} {w : World} (hag : ∀ w, (isAgg T).run P w = .ok true w) (hso : ∀ w, (sizeOf T).run P w = .ok n w) (h : (loadCellsFrom ad 0 n #[]).run P w = .ok c w) :
  (loadVar T ad).run P w = .ok (.agg c) w := by
 simp [loadVar, loadCells, Sem.run_bind, hag, hso, h, Result.andThen]
theorem results_arr {P : Program} {fn : Func} {p : Tmp} {ty : TypeId} {v : Value} (h : fn.results = #[.cell p ty]) (tmps : Array Value) (w : World) (ad : Addr) (hp : tmps.getD p undef = .pointer (some ad)) (hl : (loadVar ty ad).run P w = .ok v w) :
  (results fn tmps).run P w = .ok v w := by
 have hp' : tmps[p]?.getD undef = .pointer (some ad) := by simpa using hp
 simp [results, h, hp', asAddr, hl]
def tabL (i : Nat) : List UInt8 := (List.range 256).map fun c => if b64V (UInt8.ofNat c) ≤ i then UInt8.ofNat (b64V (UInt8.ofNat c)) else 0
theorem tabL_len (i : Nat) : (tabL i).length = 256 := by unfold tabL; simp
theorem tabL_zero : tabL 0 = List.replicate 256 0 := by decide +kernel
theorem tabL_set : ∀ k : Fin 64, (tabL k.val).set (b64C k.val).toNat (UInt8.ofNat (k.val + 1)) = tabL (k.val + 1) := by decide +kernel
theorem tabL_get (c : UInt8) (h : c.toNat < (tabL 64).length) : (tabL 64)[c.toNat].toNat = b64V c := u8_all (fun c => ∀ h : c.toNat < (tabL 64).length, (tabL 64)[c.toNat].toNat = b64V c) (by decide +kernel) c h
theorem b64V_bd (c : UInt8) : b64V c ≤ 64 := u8_all (fun c => b64V c ≤ 64) (by decide +kernel) c
noncomputable def zTab : Array Value := ((Tryz.prog.info? 95).bind (·.zero)).elim #[] (·.cells)
theorem zTab_size : zTab.size = 256 := by kernel_rfl
def isZ8 : Value → Bool
 | .int .u8 0 => true
 | _ => false
theorem isZ8_eq {v : Value} (h : isZ8 v = true) : v = .int .u8 0 := by
 unfold isZ8 at h
 split at h
 ·rfl
 ·cases h
theorem zTab_all : zTab.toList.all isZ8 = true := by kernel_rfl
theorem zTab_at {i : Nat} (h : i < 256) : zTab[i]? = some (.int .u8 0) := by
 have hs : i < zTab.size := by rw [zTab_size]; exact h
 rw [Array.getElem?_eq_getElem hs]
 have := List.all_eq_true.1 zTab_all zTab[i] (by simp)
 rw [isZ8_eq this]
theorem zTab_row (w : World) (T : TypeId) : ByteRow (w.alloc (.cells zTab T)) w.heap.size (List.replicate 256 0) := by
 refine ⟨zTab, T, (0, 0), (MapKept.heap_alloc w _).1, fun j hj => ?_, .inr rfl⟩
 rw [List.length_replicate] at hj
 rw [zTab_at hj, List.getElem_replicate]
 rfl
theorem zTab_agg : ((Tryz.prog.info? 95).bind (·.zero)).elim false (fun z => match z with | .agg _ => true | _ => false) = true := by kernel_rfl
theorem zTab_some : ((Tryz.prog.info? 95).bind (·.zero)).isSome = true := by kernel_rfl
theorem size_tab : (Tryz.prog.info? 95).map (·.size) = some 256 := by kernel_rfl
theorem zTab_val (w : World) : (zeroValue 95).run Tryz.prog w = .ok (.agg zTab) w := by
 have h0 := zTab_some
 cases hi : Tryz.prog.info? 95 with
 | none => rw [hi] at h0; cases h0
 | some it =>
  rw [hi] at h0
  cases hz : it.zero with
  | none => simp [hz] at h0
  | some z =>
   have hzz : z = .agg zTab := by
    have h1 := zTab_agg
    simp only [hi, Option.bind_some, hz, Option.elim_some] at h1
    cases z with
    | agg c => simp [zTab, hi, hz, Value.cells]
    | _ => cases h1
   simp [zeroValue, typeInfo, hi, hz, hzz]
def tabC : Array Value := (Lib.byteCells (tabL 64)).toArray
theorem tab_load {w : World} {b : Nat} (h : ByteRow w b (tabL 64)) : (loadCellsFrom ⟨b, 0, none⟩ 0 256 #[]).run Tryz.prog w = .ok tabC w := by
 have := run_loadCells_list (P := Tryz.prog) w ⟨b, 0, none⟩ (Lib.byteCells (tabL 64)) (fun j v hv => by
  have hj : j < (tabL 64).length := by
   have := (List.getElem?_eq_some_iff.1 hv).1
   rwa [Lib.byteCells_length] at this
  rw [h.cells j hj]
  have e : (Lib.byteCells (tabL 64))[j]? = some (.int .u8 ((tabL 64)[j].toNat : Int)) := by unfold Lib.byteCells; simp [hj]
  rw [e] at hv
  exact hv)
 rw [Lib.byteCells_length, tabL_len] at this
 exact this
theorem b64A_at (k : Nat) (h : k < 64) (h2 : k < (⟨#[65, 66, 67, 68, 69, 70, 71, 72, 73, 74, 75, 76, 77, 78, 79, 80, 81, 82, 83, 84, 85, 86, 87, 88, 89, 90, 97, 98, 99, 100, 101, 102, 103, 104, 105, 106, 107, 108, 109, 110, 111, 112, 113, 114, 115, 116, 117, 118, 119, 120, 121, 122, 48, 49, 50, 51, 52, 53, 54, 55, 56, 57, 43, 47]⟩ : ByteArray).size) : (((⟨#[65, 66, 67, 68, 69, 70, 71, 72, 73, 74, 75, 76, 77, 78, 79, 80, 81, 82, 83, 84, 85, 86, 87, 88, 89, 90, 97, 98, 99, 100, 101, 102, 103, 104, 105, 106, 107, 108, 109, 110, 111, 112, 113, 114, 115, 116, 117, 118, 119, 120, 121, 122, 48, 49, 50, 51, 52, 53, 54, 55, 56, 57, 43, 47]⟩ : ByteArray)[k]'h2).toNat : Int) = ((b64C k).toNat : Int) := by
 have e : b64C k = (ba b64A)[k]'h2 := by
  unfold b64C
  rw [List.getD_eq_getElem?_getD, List.getElem?_eq_getElem (by exact h), Option.getD_some]
  rfl
 rw [e]
 rfl
theorem store_bytes (b : Nat) : ∀ (t l : List UInt8) (i : Nat) (w : World), ByteRow w b l → i + t.length ≤ l.length → ∃ w' l', (storeCells ⟨b, 0, none⟩ (Lib.byteCells t) i).run Tryz.prog w = .ok () w' ∧ (∀ B, B ≤ b → Below B w w') ∧ ByteRow w' b l' ∧ l' = l.take i ++ t ++ l.drop (i + t.length)
 | [], l, i, w, h, _ => ⟨w, l, rfl, fun B _ => Below.refl B w, h, by simp⟩
 | c :: r, l, i, w, h, hl => by
  rw [List.length_cons] at hl
  have hi : i < l.length := by omega
  obtain ⟨w', l', h1, h2, h3, h4⟩ := store_bytes b r (l.set i c) (i + 1) _ (h.set hi c) (by rw [List.length_set]; omega)
  have hst : (store ((⟨b, 0, none⟩ : Addr).add i) (.int .u8 (c.toNat : Int))).run Tryz.prog w = .ok () (w.setCell ⟨b, i, none⟩ (.int .u8 (c.toNat : Int))) := by
   have ha : (⟨b, 0, none⟩ : Addr).add i = ⟨b, i, none⟩ := by unfold Addr.add; split <;> simp_all
   rw [ha, run_store _ _ _ _ _ rfl, h.cell hi, h.free hi]
   rfl
  refine ⟨w', l', ?_, fun B hB => ((Below.refl B w).setCell (p := ⟨b, i, none⟩) hB _).trans (h2 B hB), h3, ?_⟩
  ·show (storeCells ⟨b, 0, none⟩ (.int .u8 (c.toNat : Int) :: Lib.byteCells r) i).run Tryz.prog w = _
   rw [storeCells, Sem.run_bind, hst]
   exact h1
  ·rw [h4, List.length_cons, show i + (r.length + 1) = i + 1 + r.length by omega, List.drop_set_of_lt (by omega)]
   rw [List.take_set, List.take_succ_eq_append_getElem hi, List.set_append_right _ _ (by rw [List.length_take]; omega)]
   have : i - (l.take i).length = 0 := by rw [List.length_take]; omega
   rw [this]
   simp
theorem tab_store {w : World} {b : Nat} (h : ByteRow w b (tabL 64)) : ∃ w', (storeCells ⟨b, 0, none⟩ tabC.toList 0).run Tryz.prog w = .ok () w' ∧ (∀ B, B ≤ b → Below B w w') ∧ ByteRow w' b (tabL 64) := by
 obtain ⟨w', l', h1, h2, h3, h4⟩ := store_bytes b (tabL 64) (tabL 64) 0 w h (by omega)
 refine ⟨w', h1, h2, ?_⟩
 rw [h4] at h3
 simpa using h3
set_option maxRecDepth 100000 in
set_option maxHeartbeats 4000000 in
theorem values_any (w : World) : Calls Tryz.prog 81 #[] w fun e w' => e = .returned (.agg tabC) ∧ Below w.heap.size w w' := by
 have hz := zTab_val
 have HZ := Lib.hid (show ByteRow (w.alloc (.cells zTab 95)) w.heap.size (tabL 0) by
  rw [tabL_zero]
  exact zTab_row w _)
 go_enter Tryz.func81, Tryz.ntmps81
 go_wp2
 go_loopw [1, 2] (fun a i wr => ∃ (k : Nat) (y : Value), a = y ∧ k ≤ 64 ∧ i = .int .i64 (k : Int) ∧ Hid (ByteRow wr w.heap.size (tabL k) ∧ Below w.heap.size w wr)) (fun _ i _ => 64 - (intOf i).toNat)
 case atStart => exact ⟨0, _, rfl, by omega, rfl, Lib.hid ⟨HZ.out, (Below.refl _ _).alloc (Nat.le_refl _) _⟩⟩
 case round =>
  obtain ⟨k, y, rfl, hk, rfl, HR⟩ := hrel
  by_cases hlt : k < 64
  ·have hk2 : (k : Int) < 64 := by omega
   have hk0 : (0 : Int) ≤ (k : Int) := by omega
   have hg1 := b64A_at k hlt
   have HST := Lib.hid (tabL_set ⟨k, hlt⟩)
   obtain ⟨D, hD⟩ : ∃ D, (b64C k).toNat = D := ⟨_, rfl⟩
   have hD2 : D < 256 := by rw [← hD]; exact (b64C k).toNat_lt
   dsimp only at HST
   rw [hD] at HST
   simp only [hD] at hg1
   have hDl : D < (tabL k).length := by rw [tabL_len]; exact hD2
   have hcell := HR.out.1.cell hDl
   have hfree := HR.out.1.free hDl
   have HSET := Lib.hid (HR.out.1.set hDl (UInt8.ofNat (k + 1)))
   have hDi : (D : Int) < 256 := by omega
   have hD0 : (0 : Int) ≤ (D : Int) := by omega
   have HU := Lib.hid (show ((UInt8.ofNat (k + 1)).toNat : Int) = (k : Int) + 1 by rw [UInt8.toNat_ofNat']; omega)
   obtain ⟨z, hzc⟩ : ∃ z, (((tabL k)[D]'hDl).toNat : Int) = z := ⟨_, rfl⟩
   rw [hzc] at hcell
   clear hD hDl hzc
   go_wp2
   go_roundw
   case rel =>
    refine ⟨k + 1, _, rfl, by omega, by go_num, Lib.hid ⟨?_, HR.out.2.setCell (Nat.le_refl _) _⟩⟩
    rw [← HST.out]
    have := HSET.out
    rw [HU.out] at this
    exact this
   case measure => simp [intOf] <;> omega
  ·obtain rfl : k = 64 := by omega
   have hld := tab_load HR.out.1
   obtain ⟨w5, hst, hb5, hr5⟩ := tab_store HR.out.1
   have hb6 := HR.out.2.trans ((hb5 _ (Nat.le_refl _)))
   have HB6 := Lib.hid hb6
   have hl2 := tab_load hr5
   clear hb5 hb6 HR
   go_wp2
   unfold Oper.wp
   rw [exec_load_arr rfl rfl Tryz.isAgg95 Tryz.sizeOf95 hld, Oper.upon_value]
   go_wp2
   refine bodyPost_ret (v := .agg tabC) ?_ rfl ⟨rfl, HB6.out⟩
   exact results_arr rfl _ _ _ rfl (loadVar_arr Tryz.isAgg95 Tryz.sizeOf95 hl2)
end Go.Proofs.YthidbmeaccpjdaaGreatDoor
end
section
namespace Go.Proofs.YthidbmeaccpjdaaGreatDoor
open Go.RowKit
set_option linter.unusedVariables false
theorem tab_one : tabC.all (·.oneCell') = true := by
 unfold tabC
 rw [List.all_toArray]
 exact List.all_eq_true.2 fun v hv => by
  obtain ⟨c, _, rfl⟩ := List.mem_map.1 hv
  rfl
theorem tab_size : tabC.size = 256 := by unfold tabC; rw [List.size_toArray, Lib.byteCells_length, tabL_len]
theorem tab_new (w : World) : (storeCells ⟨w.heap.size, 0, none⟩ tabC.toList 0).run Tryz.prog (w.alloc (.cells zTab 95)) = .ok () (w.alloc (.cells tabC 95)) :=
 run_storeCells_new w _ _ _ (by rw [size_tab, tab_size]) (by rw [zTab_size, tab_size]) tab_one
theorem tab_cell {w : World} {b : Nat} (h : w.heap[b]? = some (.cells tabC 95 (0, 0))) (c : UInt8) : w.cell? ⟨b, c.toNat, none⟩ = some (.int .u8 (b64V c : Int)) := by
 rw [Lib.cell_of_heap h]
 have hl : c.toNat < (tabL 64).length := by rw [tabL_len]; exact c.toNat_lt
 have e : tabC[c.toNat]? = some (.int .u8 ((tabL 64)[c.toNat].toNat : Int)) := by
  unfold tabC Lib.byteCells
  simp [hl]
 rw [e, tabL_get c hl]
structure B6Rel (w : World) (l r : List UInt8) (tb i v k : Nat) (wr : World) : Prop where
 ex : ∃ acc, Bld wr w.heap.size w.heap.size acc ∧ acc ++ b64F v k (r.drop i) = unb64P l ∧ acc.length + k ≤ i
 tab : wr.heap[tb]? = some (.cells tabC 95 (0, 0))
 bel : Below w.heap.size w wr
 k3 : k ≤ 3
 vk : v < 64 ^ k
theorem or6 {a b : Int} (ha : 0 ≤ a) (ha2 : a < 262144) (hb : 0 ≤ b) (hb2 : b < 64) : bits BinOp.or IntKind.i64 (a * 64) b = a * 64 + b :=
 bits_join .i64 30 (by decide) (fun n h0 h1 => by simp [IntKind.wrap, IntKind.bits, IntKind.signed]; omega) 6 (a * 64) b (by omega) (by omega) (by omega) (by omega) (by omega) (by omega)
theorem wb_int (B b : Nat) (acc : List UInt8) (x : Int) (c : UInt8) (w : World) (hx : (c.toNat : Int) = x) (h : Bld w B b acc) (hlen : acc.length + 1 ≤ 140737488355328) (hBw : B ≤ w.heap.size) :
  Calls Tryz.prog 56 #[.pointer (some ⟨b, 0, none⟩), .int .u8 x] w (WrotePost w B b (acc ++ [c]) .nilIface) := by
 subst hx
 exact write_byte B b acc c w h hlen hBw
theorem tab_kept {w w' : World} {B b k : Nat} {l : List UInt8} (h : Wrote w B b l w') (hk : w.heap[k]? = some (.cells tabC 95 (0, 0))) (hne : k ≠ b) : w'.heap[k]? = some (.cells tabC 95 (0, 0)) :=
 h.oth k _ hk (by simpa using hne) (fun c fz e => by injection e with _ e; exact absurd e (by decide))
theorem row3 {w : World} {a b c : UInt8} {x y z : Int} (hx : (a.toNat : Int) = x) (hy : (b.toNat : Int) = y) (hz : (c.toNat : Int) = z) : ByteRow (w.alloc (.cells #[.int .u8 x, .int .u8 y, .int .u8 z] 5)) w.heap.size [a, b, c] := by
 subst hx hy hz
 refine ⟨_, _, (0, 0), (MapKept.heap_alloc w _).1, fun j hj => ?_, .inr rfl⟩
 match j, hj with
 | 0, _ => rfl
 | 1, _ => rfl
 | 2, _ => rfl
 | j + 3, h => simp at h; omega
set_option maxRecDepth 100000 in
set_option maxHeartbeats 4000000 in
theorem unb64_any (l : List UInt8) (w : World) (hl : l.length ≤ 1000000000) (hT : Tabs w) :
  Calls Tryz.prog 37 #[.string (ba l)] w (StrB w (unb64P l)) := by
 have hz := zTab_val
 have HT := Lib.hid hT
 have HB0 := Lib.hid (bld_new w)
 have HCU := Lib.hid (fun W hW => cut_any 61 l W hl hW)
 unfold CutPost at HCU
 have hcl := cutV_len 61 l
 have HU := Lib.hid (show unb64P l = b64F 0 0 (cutV 61 l).1 by unfold unb64P cutV; cases cutP 61 l <;> rfl)
 have HVA := Lib.hid (fun W => values_any W)
 obtain ⟨⟨r, r2, f⟩, hv⟩ : ∃ v, cutV 61 l = v := ⟨_, rfl⟩
 rw [hv] at HU hcl
 simp only [hv] at HCU
 dsimp only at HU hcl
 clear hv hT
 go_enter Tryz.func37, Tryz.ntmps37
 go_wp2_with fail
 refine (HVA.out _).mono ?_
 rintro e w1 ⟨rfl, hb1⟩
 have HB1 := Lib.hid (((Below.refl w.heap.size w).alloc (Nat.le_refl _) (.cells #[.pointer none, .slice none 0 0] 64)).trans (hb1.mono (by simp)))
 have HBL1 := Lib.hid (HB0.out.below hb1)
 have hs1 : w.heap.size < w1.heap.size := by have := hb1.size; simp at this; omega
 have hst := tab_new w1
 clear hb1
 go_wp2_with fail
 refine (HCU.out _ ((HT.out.below HB1.out).below ((Below.refl _ _).alloc (Nat.le_refl _) _))).mono ?_
 rintro e w2 ⟨rfl, nn, rfl⟩
 obtain ⟨tb, htb⟩ : ∃ t, w1.heap.size = t := ⟨_, rfl⟩
 have HTB := Lib.hid htb
 obtain ⟨w2, hw2⟩ : ∃ W, (w1.alloc (.cells tabC 95)).drewN nn = W := ⟨_, rfl⟩
 have HREL := Lib.hid (show B6Rel w l r tb 0 0 0 w2 by
  subst hw2
  refine ⟨⟨[], (HBL1.out.alloc _), ?_, Nat.le_refl _⟩, ?_, ?_, by omega, by decide⟩
  ·rw [List.drop_zero, List.nil_append, HU.out]
  ·rw [← HTB.out]; exact (MapKept.heap_alloc w1 _).1
  ·exact below_drewN (HB1.out.alloc (by omega) _) nn)
 rw [hw2, HTB.out]
 clear hw2 htb HCU HVA hst HB0 HBL1 HB1
 have htb : w.heap.size < tb := by rw [← HTB.out]; exact hs1
 have HTL := Lib.hid htb
 clear htb hs1
 obtain ⟨n, hn⟩ : ∃ n, r.length = n := ⟨_, rfl⟩
 have HL := Lib.hid hn
 obtain ⟨s, hs⟩ : ∃ s, ba r = s := ⟨_, rfl⟩
 have HS := Lib.hid hs
 have HZ := Lib.hid (show s.size = n by rw [← hs, ba_size, hn])
 have hsz : (s.size : Int) = n := by rw [HZ.out]
 rw [hs]
 have hn9 : n ≤ 1000000000 := by rw [← hn]; omega
 clear hs hn hcl
 go_wp2
 go_loopw [5, 6, 7, 8, 18] (fun v k i d x wr => ∃ (i0 V K : Nat) (y z : Value), i = y ∧ d = z ∧ i0 ≤ n ∧ v = .int .i64 (V : Int) ∧ k = .int .i64 (K : Int) ∧ x = .int .i64 (i0 : Int) ∧ Hid (B6Rel w l r tb i0 V K wr)) (fun _ _ _ _ x _ => n - (intOf x).toNat)
 case atStart => exact ⟨0, 0, 0, _, _, rfl, rfl, by omega, rfl, rfl, rfl, HREL⟩
 case round =>
  obtain ⟨i, V, K, y, z, rfl, rfl, hi, rfl, rfl, rfl, HR⟩ := hrel
  have hk3 := HR.out.k3
  have hvk := HR.out.vk
  have hv3 : V < 262144 := Nat.lt_of_lt_of_le hvk (Nat.pow_le_pow_right (by decide) hk3)
  obtain ⟨acc, hbld, heq, hal⟩ := HR.out.ex
  have hszr := HR.out.bel.size
  have HBL := Lib.hid hbld
  have HEQ := Lib.hid heq
  have HAL := Lib.hid hal
  clear hbld heq hal hvk
  by_cases hlt : i < n
  ·have hk2 : (i : Int) < (n : Int) := by omega
   have hk0 : (0 : Int) ≤ (i : Int) := by omega
   have hks : i < s.size := by rw [HZ.out]; omega
   have hkl : i < r.length := by rw [HL.out]; omega
   have hget : s[i] = r[i] := by
    have h := HS.out
    subst h
    rfl
   have HDR := Lib.hid (List.drop_eq_getElem_cons hkl)
   obtain ⟨c, hc⟩ : ∃ c, r[i] = c := ⟨_, rfl⟩
   rw [hc] at hget HDR
   have hcell := tab_cell HR.out.tab c
   have hD := b64V_bd c
   obtain ⟨C, hC⟩ : ∃ C, c.toNat = C := ⟨_, rfl⟩
   have hC2 : (C : Int) < 256 := by have := c.toNat_lt; omega
   have hC0 : (0 : Int) ≤ (C : Int) := by omega
   have hgi : ((s[i]).toNat : Int) = (C : Int) := by rw [hget, hC]
   rw [hC] at hcell
   obtain ⟨D, hDD⟩ : ∃ D, b64V c = D := ⟨_, rfl⟩
   rw [hDD] at hcell hD
   have HD := Lib.hid hDD
   clear hc hget hC hDD hkl
   by_cases h0 : D = 0
   ·have g1 : ((D : Int) == 0) = true := by rw [h0]; rfl
    have HN := Lib.hid (show b64F V K (r.drop i) = b64F V K (r.drop (i + 1)) by rw [HDR.out]; conv => lhs; unfold b64F; rw [if_pos (HD.out.trans h0)])
    clear h0
    go_wp2
    go_roundw
    case rel => exact ⟨i + 1, V, K, _, _, rfl, rfl, by omega, rfl, rfl, by go_num, Lib.hid ⟨⟨acc, HBL.out, by rw [← HN.out]; exact HEQ.out, by have := HAL.out; omega⟩, HR.out.tab, HR.out.bel, HR.out.k3, HR.out.vk⟩⟩
    case measure => simp [intOf] <;> omega
   ·have g1 : ((D : Int) == 0) = false := by rw [beq_eq_false_iff_ne]; omega
    have hD1 : 0 < D := by omega
    obtain ⟨v, hv⟩ : ∃ v : Int, (V : Int) = v := ⟨_, rfl⟩
    obtain ⟨d, hd⟩ : ∃ d : Int, (D : Int) - 1 = d := ⟨_, rfl⟩
    have hdd : (D : Int) = d + 1 := by omega
    rw [hdd] at hcell g1
    have HV := Lib.hid hv
    have HDI := Lib.hid hd
    have hV0 : 0 ≤ v := by omega
    have hV3 : v < 262144 := by omega
    have hD0 : 0 ≤ d := by omega
    have hD9 : d < 64 := by omega
    have hor := or6 hV0 hV3 hD0 hD9
    have hw1 : (d + 1 - 1) % 256 = d := by omega
    have hw2 : v * 64 % 18446744073709551616 = v * 64 := by omega
    rw [hv]
    have HT6 := Lib.hid (show b64V c ≠ 0 by rw [HD.out]; exact h0)
    have hv2 : V < 64 ^ K := HR.out.vk
    clear hv hd hdd h0 hD hv3
    obtain ⟨T, hT⟩ : ∃ T, V * 64 + (D - 1) = T := ⟨_, rfl⟩
    have HTT := Lib.hid hT
    have hTi : v * 64 + d = (T : Int) := by have := HV.out; have := HDI.out; omega
    have HTI := Lib.hid hTi
    by_cases e3 : K = 3
    ·have HN := Lib.hid (show b64F V K (r.drop i) = [UInt8.ofNat (T / 65536), UInt8.ofNat (T / 256), UInt8.ofNat T] ++ b64F 0 0 (r.drop (i + 1)) by
      rw [HDR.out]
      conv => lhs; unfold b64F
      rw [if_neg HT6.out, if_pos e3, HD.out, HTT.out])
     subst e3
     have hT9 : T < 16777216 := by rw [← hT]; have := HV.out; have := HDI.out; omega
     have q1 : ((UInt8.ofNat (T / 65536)).toNat : Int) = (v * 64 + d) / 65536 := by rw [UInt8.toNat_ofNat', hTi]; omega
     have q2 : ((UInt8.ofNat (T / 256)).toNat : Int) = (v * 64 + d) / 256 % 256 := by rw [UInt8.toNat_ofNat', hTi]; omega
     have q3 : ((UInt8.ofNat T).toNat : Int) = (v * 64 + d) % 256 := by rw [UInt8.toNat_ofNat', hTi]; omega
     have HW3 := Lib.hid (row3 (w := wr) q1 q2 q3)
     obtain ⟨c1, hc1⟩ : ∃ c, UInt8.ofNat (T / 65536) = c := ⟨_, rfl⟩
     obtain ⟨c2, hc2⟩ : ∃ c, UInt8.ofNat (T / 256) = c := ⟨_, rfl⟩
     obtain ⟨c3, hc3⟩ : ∃ c, UInt8.ofNat T = c := ⟨_, rfl⟩
     rw [hc1, hc2, hc3] at HN HW3
     clear q1 q2 q3 hc1 hc2 hc3 hT hT9 hTi hv2
     have HWR := Lib.hid (write_bytes w.heap.size w.heap.size wr.heap.size 3 acc [c1, c2, c3] _ (HBL.out.alloc _) (by have := HAL.out; show _ + 3 ≤ _; omega) (by simp; omega) HW3.out (by have := HR.out.bel.size; have := HBL.out.lt; omega))
     have HBA := Lib.hid (show ∀ o, Below w.heap.size w (wr.alloc o) from fun o => HR.out.bel.alloc hszr o)
     have HTA := Lib.hid (show ∀ o : Obj, (wr.alloc o).heap[tb]? = some (.cells tabC 95 (0, 0)) from fun o => (Go.RowKit.Below.heap_alloc _ _ _ (heap_lt HR.out.tab)).trans HR.out.tab)
     go_wp2_with fail
     refine HWR.out.mono ?_
     rintro e w5 ⟨rfl, hW⟩
     have HNR := Lib.hid (show B6Rel w l r tb (i + 1) 0 0 w5 from ⟨⟨acc ++ [c1, c2, c3], hW.bld, by rw [List.append_assoc, ← HN.out]; exact HEQ.out, by have := HAL.out; simp; omega⟩, tab_kept hW (HTA.out _) (by have := HTL.out; omega), (HBA.out _).trans (hW.bel.mono (by simp <;> omega)), by omega, by decide⟩)
     clear hW
     go_wp2
     go_roundw
     case rel => exact ⟨i + 1, 0, 0, _, _, rfl, rfl, by omega, rfl, rfl, by go_num, HNR⟩
     case measure => simp [intOf] <;> omega
    ·have g4 : ((K : Int) + 1 == 4) = false := by rw [beq_eq_false_iff_ne]; omega
     have HN := Lib.hid (show b64F V K (r.drop i) = b64F T (K + 1) (r.drop (i + 1)) by
      rw [HDR.out]
      conv => lhs; unfold b64F
      rw [if_neg HT6.out, if_neg e3, HD.out, HTT.out])
     have HKK := Lib.hid (show T < 64 ^ (K + 1) by rw [Nat.pow_succ, ← hT]; have := HV.out; have := HDI.out; omega)
     have hk2i : (K : Int) ≤ 3 := by omega
     have hk0i : (0 : Int) ≤ (K : Int) := by omega
     clear hT hv2
     go_wp2
     go_roundw
     case rel => exact ⟨i + 1, T, K + 1, _, _, rfl, rfl, by omega, by rw [← HTI.out], by go_num, by go_num, Lib.hid ⟨⟨acc, HBL.out, by rw [← HN.out]; exact HEQ.out, by have := HAL.out; omega⟩, HR.out.tab, HR.out.bel, by omega, HKK.out⟩⟩
     case measure => simp [intOf] <;> omega
  ·obtain rfl : i = n := by omega
   have HE := Lib.hid (show acc ++ b64E V K = unb64P l by rw [← HEQ.out, List.drop_of_length_le (by rw [HL.out]; exact Nat.le_refl _)]; rfl)
   have HBE := Lib.hid HR.out.bel
   have hvk := HR.out.vk
   clear HR HEQ
   obtain ⟨v, hv⟩ : ∃ v : Int, (V : Int) = v := ⟨_, rfl⟩
   have HV := Lib.hid hv
   have hv0 : 0 ≤ v := by omega
   have hv9 : v < 262144 := by omega
   rw [hv]
   have hK : K = 0 ∨ K = 1 ∨ K = 2 ∨ K = 3 := by omega
   clear hv hv3
   rcases hK with rfl | rfl | rfl | rfl
   ·have HE2 := Lib.hid (show acc = unb64P l by rw [← HE.out]; exact (List.append_nil _).symm)
    go_wp2_with fail
    refine (bld_string _ _ _ wr HBL.out hszr).mono ?_
    rintro e w8 ⟨rfl, hW⟩
    have HW8 := Lib.hid hW.bel
    clear hW
    go_wp2
    go_ret
    exact str_fin (by rw [HE2.out]) (HBE.out.trans HW8.out)
   ·have HE2 := Lib.hid (show acc = unb64P l by rw [← HE.out]; exact (List.append_nil _).symm)
    go_wp2_with fail
    refine (bld_string _ _ _ wr HBL.out hszr).mono ?_
    rintro e w8 ⟨rfl, hW⟩
    have HW8 := Lib.hid hW.bel
    clear hW
    go_wp2
    go_ret
    exact str_fin (by rw [HE2.out]) (HBE.out.trans HW8.out)
   ·have HWB := Lib.hid (wb_int _ _ acc (v / 16 % 256) (UInt8.ofNat (V / 2 ^ (6 * 2 - 8))) wr (by rw [UInt8.toNat_ofNat', ← HV.out]; show ((V / 16 % 256 : Nat) : Int) = _; omega) HBL.out (by have := HAL.out; omega) hszr)
    go_wp2_with fail
    refine HWB.out.mono ?_
    rintro e w5 ⟨rfl, hW⟩
    have HB5 := Lib.hid hW.bld
    have HE5 := Lib.hid hW.bel
    have hs5 : w.heap.size ≤ w5.heap.size := Nat.le_trans hszr hW.bel.size
    have HE2 := Lib.hid (show acc ++ [UInt8.ofNat (V / 2 ^ (6 * 2 - 8))] = unb64P l by rw [← HE.out]; rfl)
    clear hW
    go_wp2_with fail
    refine (bld_string _ _ _ w5 HB5.out hs5).mono ?_
    rintro e w8 ⟨rfl, hW⟩
    have HW8 := Lib.hid hW.bel
    clear hW
    go_wp2
    go_ret
    exact str_fin (by rw [HE2.out]) ((HBE.out.trans HE5.out).trans HW8.out)
   ·have HWB := Lib.hid (wb_int _ _ acc (v / 1024) (UInt8.ofNat (V / 2 ^ (6 * 3 - 8))) wr (by rw [UInt8.toNat_ofNat', ← HV.out]; show ((V / 1024 % 256 : Nat) : Int) = _; have := HV.out; omega) HBL.out (by have := HAL.out; omega) hszr)
    go_wp2_with fail
    refine HWB.out.mono ?_
    rintro e w5 ⟨rfl, hW⟩
    have hs5 : w.heap.size ≤ w5.heap.size := Nat.le_trans hszr hW.bel.size
    have HWB2 := Lib.hid (wb_int _ _ (acc ++ [UInt8.ofNat (V / 2 ^ (6 * 3 - 8))]) (v / 4 % 256) (UInt8.ofNat (V / 2 ^ (6 * 3 - 16))) w5 (by rw [UInt8.toNat_ofNat', ← HV.out]; show ((V / 4 % 256 : Nat) : Int) = _; omega) hW.bld (by have := HAL.out; simp; omega) hs5)
    have HE5 := Lib.hid (HBE.out.trans hW.bel)
    clear hW
    go_wp2_with fail
    refine HWB2.out.mono ?_
    rintro e w6 ⟨rfl, hW⟩
    have HB6 := Lib.hid hW.bld
    have HE6 := Lib.hid (HE5.out.trans hW.bel)
    have hs6 : w.heap.size ≤ w6.heap.size := Nat.le_trans hs5 hW.bel.size
    have HE2 := Lib.hid (show acc ++ [UInt8.ofNat (V / 2 ^ (6 * 3 - 8))] ++ [UInt8.ofNat (V / 2 ^ (6 * 3 - 16))] = unb64P l by rw [← HE.out, List.append_assoc]; rfl)
    clear hW
    go_wp2_with fail
    refine (bld_string _ _ _ w6 HB6.out hs6).mono ?_
    rintro e w8 ⟨rfl, hW⟩
    have HW8 := Lib.hid hW.bel
    clear hW
    go_wp2
    go_ret
    exact str_fin (by rw [← HE2.out]; simp) (HE6.out.trans HW8.out)
end Go.Proofs.YthidbmeaccpjdaaGreatDoor
end
