/- Layer 1: the contract of Parse. Layer 4: the contracts of next and Runes; what the package variables hold. Layer 4: the contracts of Runes, Rune, joined and Repair. -/
import Derived.Lib.OthersKept
import Derived.Shelf.Unicode.DecodeSlow
import Derived.Test.YthidbmeaccpjdaaGreatDoorM04
import Derived.Test.YthidbmeaccpjdaaGreatDoorM11
import Derived.Test.YthidbmeaccpjdaaGreatDoorShelfP
import Derived.Test.YthidbmeaccpjdaaGreatDoorM01
namespace Go.Proofs.YthidbmeaccpjdaaGreatDoor
open Go.RowKit
set_option linter.unusedVariables false
set_option maxHeartbeats 4000000
def ErrVar (w : World) : Prop := ∃ ev, w.cell? ⟨6, 0, none⟩ = some ev ∧ (ev = .nilIface ∨ ∃ te pe, ev = .iface te pe)
def ParsePost (w : World) (o : Option Int) (e : Ending) (w' : World) : Prop := e = .returned (.tuple #[.int .i64 (o.getD 0), .bool o.isSome]) ∧ Below w.heap.size w w'
theorem parse_none {w w' : World} {o : Option Int} (h : o = none) (hb : Below w.heap.size w w') : ParsePost w o (.returned (.tuple #[.int .i64 0, .bool false])) w' := by
 subst h
 exact ⟨rfl, hb⟩
theorem parse_some {w w' : World} {o : Option Int} {v : Int} (h : o = some v) (hb : Below w.heap.size w w') : ParsePost w o (.returned (.tuple #[.int .i64 v, .bool true])) w' := by
 subst h
 exact ⟨rfl, hb⟩
theorem trim_dash (l : List UInt8) : Lib.trimPrefix l [45] = decD l := by
 unfold Lib.trimPrefix decD
 cases l with
 | nil => rfl
 | cons c r =>
  by_cases h : c = 45
  ·subst h; rfl
  ·have : ¬ (c :: r).head? = some 45 := fun e => h (Option.some.inj e)
   rw [if_neg this]
   have h2 : List.isPrefixOf [45] (c :: r) = false := by simp [List.isPrefixOf]; exact fun e => h e.symm
   simp [Lib.hasPrefix, h2]
theorem rune_digit {l : List UInt8} (h : l ≠ []) : (48 ≤ (uN l).1 ∧ (uN l).1 ≤ 57) → digitB (l.getD 0 0) = true ∧ (uN l).2 = 1 := by
 intro hr
 have hc := uN_cases l h
 have hb : bt l 0 = (l.getD 0 0).toNat := rfl
 rcases hc with ⟨h1, h2 | h2⟩ | h2 | h2 | h2
 ·exact ⟨digitB_nat.2 (by rw [← hb]; omega), h1⟩
 all_goals omega
theorem digit_rune {l : List UInt8} (h : l ≠ []) (hd : digitB (l.getD 0 0) = true) : 48 ≤ (uN l).1 ∧ (uN l).1 ≤ 57 ∧ (uN l).2 = 1 := by
 have hd2 := digitB_nat.1 hd
 have hb : bt l 0 = (l.getD 0 0).toNat := rfl
 rw [← hb] at hd2
 have hc := uN_cases l h
 rcases hc with ⟨h1, h2 | h2⟩ | h2 | h2 | h2
 ·omega
 all_goals omega
structure PrRel (w : World) (s : ByteArray) (d : List UInt8) (pos : Nat) (wr : World) : Prop where
 iter : wr.heap[w.heap.size]? = some (.stringIter s pos)
 bel : Below w.heap.size w wr
 dig : (d.take pos).all digitB = true
theorem dig_snoc {d : List UInt8} {k : Nat} (hk : k < d.length) (h : (d.take k).all digitB = true) (h2 : digitB ((d.drop k).getD 0 0) = true) : (d.take (k + 1)).all digitB = true := by
 rw [List.take_succ_eq_append_getElem hk, List.all_append, h]
 have e : (d.drop k).getD 0 0 = d[k] := by simp [List.getD_eq_getElem?_getD, List.getElem?_drop, hk]
 rw [e] at h2
 simp [h2]
theorem not_canon_digit {l : List UInt8} {k : Nat} (hk : k < (decD l).length) (h : digitB (((decD l).drop k).getD 0 0) = false) : ¬ canonB l := by
 rintro ⟨h1, _⟩
 have e : ((decD l).drop k).getD 0 0 = (decD l)[k] := by simp [List.getD_eq_getElem?_getD, List.getElem?_drop, hk]
 rw [e] at h
 have := List.all_eq_true.1 h1 _ (List.getElem_mem hk)
 rw [this] at h
 cases h
def AtoiPost (w : World) (v : Value) (e : Ending) (w' : World) : Prop := e = .returned v ∧ Below w.heap.size w w'
theorem below_bytesWorld (w : World) (e : TypeId) (t : ByteArray) : Below w.heap.size w (Lib.bytesWorld w e t) := by
 unfold Lib.bytesWorld
 exact Lib.below_freeze (((Below.refl _ _).drew).alloc (Nat.le_refl _) _) (p := ⟨w.heap.size, _, none⟩) (Nat.le_refl _) _
theorem atoi_ok (l : List UInt8) (s : ByteArray) (hs : ba l = s) (hl : l.length ≤ 1000000000) {v : Int} (h : Lib.atoiAll l = .ok v) (w : World) : Calls Tryz.prog 276 #[.string s] w (AtoiPost w (.tuple #[.int .i64 v, .nilIface])) := by
 subst hs
 refine (Tryz.strconv_Atoi_ok (ba l) (by rw [ba_size]; omega) v h w).mono ?_
 rintro e w' ⟨rfl, rfl | ⟨t, rfl⟩⟩
 ·exact ⟨rfl, Below.refl _ _⟩
 ·exact ⟨rfl, below_bytesWorld _ _ _⟩
def AtoiPost2 (w : World) (e : Ending) (w' : World) : Prop := ∃ n t p, e = .returned (.tuple #[.int .i64 n, .iface t p]) ∧ Below w.heap.size w w'
theorem atoi_range (l : List UInt8) (s : ByteArray) (hs : ba l = s) (hl : l.length ≤ 1000000000) (h : Lib.atoiAll l = .range) (w : World) (hE : ErrVar w) : Calls Tryz.prog 276 #[.string s] w (AtoiPost2 w) := by
 subst hs
 obtain ⟨ev, h1, h2⟩ := hE
 refine (Tryz.strconv_Atoi_range (ba l) (by rw [ba_size]; omega) h ev w h1 h2).mono ?_
 rintro e w' ⟨N, rfl, _, _, hb⟩
 exact ⟨_, _, _, rfl, hb⟩
theorem ErrVar.keep {w w' : World} (h : ErrVar w) (hb : Below w.heap.size w w') (hlt : 6 < w.heap.size) : ErrVar w' := by
 obtain ⟨ev, h1, h2⟩ := h
 exact ⟨ev, (hb.cell (p := ⟨6, 0, none⟩) hlt).trans h1, h2⟩
set_option maxRecDepth 100000 in
theorem num_parse_any (l : List UInt8) (lo hi : Int) (w : World) (hl : l.length ≤ 1000000000) (hlo : -9223372036854775808 ≤ lo) (hhi : hi ≤ 9223372036854775807) (hE : ErrVar w) (hlt6 : 6 < w.heap.size) :
  Calls Tryz.prog 246 #[.string (ba l), .int .i64 lo, .int .i64 hi] w (ParsePost w (decP l lo hi)) := by
 have HTR := Lib.hid (fun W => Tryz.strings_TrimPrefix (ba l) (⟨#[45]⟩ : ByteArray) W)
 have HD := Lib.hid (trim_dash l)
 have HDP := Lib.hid (decP_eq l lo hi)
 have hdl : (decD l).length ≤ l.length := by unfold decD; split; rw [List.length_drop]; omega; exact Nat.le_refl _
 have HEV := Lib.hid (fun (W : World) (hb : Below w.heap.size w W) => hE.keep hb hlt6)
 clear hE hlt6
 have HNC := Lib.hid (fun k => not_canon_digit (l := l) (k := k))
 obtain ⟨d, hd⟩ : ∃ d, decD l = d := ⟨_, rfl⟩
 have HDD := Lib.hid hd
 simp only [hd] at HD hdl HNC
 clear hd
 have hdn : d.length ≤ 1000000000 := by omega
 obtain ⟨s, hs⟩ : ∃ s, ba d = s := ⟨_, rfl⟩
 have HS := Lib.hid hs
 have HZ := Lib.hid (show s.size = d.length by rw [← hs, ba_size])
 clear hs hdl
 obtain ⟨o, ho⟩ : ∃ o, decP l lo hi = o := ⟨_, rfl⟩
 rw [ho] at HDP ⊢
 clear ho
 obtain ⟨s0, hs0⟩ : ∃ s, ba l = s := ⟨_, rfl⟩
 have HS0 := Lib.hid hs0
 rw [hs0] at HTR ⊢
 have HTR2 := Lib.hid (show ∀ W, Calls Tryz.prog 275 #[.string s0, .string ⟨#[45]⟩] W fun e w' => e = .returned (.string s) ∧ w' = W from fun W => (HTR.out W).mono (by
  rintro e w' ⟨rfl, rfl⟩
  refine ⟨?_, rfl⟩
  have e : (Lib.trimPrefix s0.data.toList (⟨#[45]⟩ : ByteArray).data.toList) = d := by rw [← HS0.out, ba_list, ← HD.out]
  rw [e, ← HS.out]
  rfl))
 clear HTR hs0
 go_enter Tryz.func246, Tryz.ntmps246
 go_wp2_with fail
 refine (HTR2.out _).mono ?_
 rintro e w2 ⟨rfl, hw2⟩
 have hw3 := hw2.symm
 subst hw3
 clear hw2 HTR2
 go_wp2
 go_loopw [] (fun wr => ∃ pos : Nat, pos ≤ s.size ∧ Hid (PrRel w s d pos wr)) (fun wr => s.size - wr.iterPos w.heap.size)
 case atStart =>
  refine ⟨0, Nat.zero_le _, Lib.hid ⟨?_, (Below.refl _ w).alloc (Nat.le_refl _) _, rfl⟩⟩
  exact World.iter_heap w s 0
 case round =>
  obtain ⟨pos, hpos, HR⟩ := hrel
  have hit := HR.out.iter
  have hbw := HR.out.bel
  have hszr : w.heap.size < wr.heap.size := heap_lt hit
  by_cases hp : pos < s.size
  ·have hpd : pos < d.length := by rw [← HZ.out]; exact hp
   have hne : d.drop pos ≠ [] := by intro e; have := congrArg List.length e; rw [List.length_drop] at this; simp at this; omega
   have hnx0 : ∀ ty, (Instr.next (.pointer (some ⟨w.heap.size, 0, none⟩)) true ty).run Tryz.prog wr = _ := fun ty => Lib.run_next_any_at wr w.heap.size s pos ty hit hp
   have hdec : Utf8.decode s pos = uN (d.drop pos) := by rw [← HS.out]; exact uN_at d pos
   have hup := uN_pos _ hne
   have HRD := Lib.hid (rune_digit hne)
   have HDR := Lib.hid (digit_rune hne)
   have HSN := Lib.hid (dig_snoc hpd HR.out.dig)
   have HNO := Lib.hid (HNC.out pos hpd)
   obtain ⟨⟨r, n⟩, hrn⟩ : ∃ q, uN (d.drop pos) = q := ⟨_, rfl⟩
   rw [hrn] at hdec hup HRD HDR
   rw [hdec] at hnx0
   dsimp only at hup hnx0
   rw [List.length_drop, ← HZ.out] at hup
   have hit2 := Lib.iterAt_heap wr w.heap.size s pos (pos + n) hit
   have hbw2 := Lib.below_iterAt hbw (k := w.heap.size) (by omega) s (pos + n)
   obtain ⟨W, hW⟩ : ∃ W, wr.iterAt w.heap.size s (pos + n) = W := ⟨_, rfl⟩
   have HIP := Lib.hid (show wr.iterPos w.heap.size = pos by simp [World.iterPos, hit])
   rw [hW] at hnx0 hit2 hbw2
   have hnx := hnx0
   have HIT := Lib.hid hit2
   have HBW := Lib.hid hbw2
   obtain ⟨x, hx⟩ : ∃ x : Int, (r : Int) = x := ⟨_, rfl⟩
   simp only [hx] at hnx
   have HX := Lib.hid hx
   clear hW hrn hdec hnx0 hit2 hbw2 hit hbw hx hne HR hpd
   by_cases e1 : 48 ≤ x ∧ x ≤ 57
   ·have hd1 := HRD.out (by have := HX.out; show 48 ≤ r ∧ r ≤ 57; omega)
    have HD1 := Lib.hid (HSN.out hd1.1)
    have hn1 : n = 1 := hd1.2
    subst hn1
    have g1 : decide (x < 48) = false := decide_eq_false (by omega)
    have g2 : decide (57 < x) = false := decide_eq_false (by omega)
    clear e1 hd1 hup
    go_wp2
    go_roundw
    case rel => exact ⟨pos + 1, by omega, Lib.hid ⟨HIT.out, HBW.out, HD1.out⟩⟩
    case measure =>
     rw [HIP.out]
     have : W.iterPos w.heap.size = pos + 1 := by simp [World.iterPos, HIT.out]
     rw [this]
     omega
   ·have HNN := Lib.hid (show ¬ canonB l from HNO.out (by
     cases hdg : digitB ((d.drop pos).getD 0 0) with
     | false => rfl
     | true =>
      have := HDR.out hdg
      exact absurd (show 48 ≤ x ∧ x ≤ 57 by have h := HX.out; have h1 : 48 ≤ r := this.1; have h2 : r ≤ 57 := this.2.1; omega) e1))
    have HON := Lib.hid (show o = none by rw [HDP.out, if_neg (fun h => HNN.out h.1)])
    by_cases e2 : x < 48
    ·have g1 : decide (x < 48) = true := decide_eq_true e2
     clear e1 e2 hup
     go_wp2
     go_ret2
     exact parse_none HON.out HBW.out
    ·have g1 : decide (x < 48) = false := decide_eq_false e2
     have g2 : decide (57 < x) = true := decide_eq_true (by omega)
     clear e1 e2 hup
     go_wp2
     go_ret2
     exact parse_none HON.out HBW.out
  ·have hnx : ∀ ty, (Instr.next (.pointer (some ⟨w.heap.size, 0, none⟩)) true ty).run Tryz.prog wr = _ := fun ty => Lib.run_next_end_at wr w.heap.size s pos ty hit hp
   have HAL := Lib.hid (show d.all digitB = true by
    have := HR.out.dig
    rw [List.take_of_length_le (by rw [← HZ.out]; omega)] at this
    exact this)
   have HBW := Lib.hid hbw
   clear HR hit hbw
   cases d with
   | nil =>
    have hse : s.toList.isEmpty = true := by rw [← HS.out, ba_toList]; rfl
    have HON := Lib.hid (show o = none by rw [HDP.out, if_neg (fun h => h.1.2.1 HDD.out)])
    clear hp hpos
    go_wp2
    go_ret2
    exact parse_none HON.out HBW.out
   | cons c r =>
    have hse : s.toList.isEmpty = false := by rw [← HS.out, ba_toList]; rfl
    have hp0 : 0 < s.size := by rw [HZ.out]; simp
    have hget : s[0] = c := by
     have h := HS.out
     subst h
     rfl
    obtain ⟨x, hx⟩ : ∃ x : Int, (c.toNat : Int) = x := ⟨_, rfl⟩
    have hgi : ((s[0]).toNat : Int) = x := by rw [hget]; exact hx
    have HX := Lib.hid hx
    clear hp hpos hget hx
    by_cases e1 : x = 48
    ·have g1 : (x == 48) = true := by simpa using e1
     by_cases e2 : l = [48]
     ·have hs0 : s0.toList = [48] := by rw [← HS0.out, ba_toList, e2]
      have HC := Lib.hid (show canonB l from ⟨by rw [HDD.out]; exact HAL.out, by rw [HDD.out]; simp, fun h => h.2 e2⟩)
      have HCAN := Lib.hid (atoi_canon HC.out)
      clear e1 e2
      rcases HCAN.out with ⟨ha, hv1, hv2⟩ | ⟨ha, hv⟩
      ·have HAT := Lib.hid (atoi_ok l s0 HS0.out hl ha wr)
       obtain ⟨v, hv⟩ : ∃ v, decN l = v := ⟨_, rfl⟩
       rw [hv] at hv1 hv2 HAT HDP
       clear hv ha HCAN
       by_cases e5 : v < lo
       ·have g5 : decide (v < lo) = true := decide_eq_true e5
        have HON := Lib.hid (show o = none by rw [HDP.out, if_neg (fun h => by have := h.2.1; omega)])
        clear e5
        go_wp2_with fail
        refine HAT.out.mono ?_
        rintro e w4 ⟨rfl, hb4⟩
        have HB4 := Lib.hid hb4
        clear hb4
        go_wp2
        go_ret2
        exact parse_none HON.out (HBW.out.trans (HB4.out.mono (by omega)))
       have g5 : decide (v < lo) = false := decide_eq_false e5
       by_cases e6 : hi < v
       ·have g6 : decide (hi < v) = true := decide_eq_true e6
        have HON := Lib.hid (show o = none by rw [HDP.out, if_neg (fun h => by have := h.2.2; omega)])
        clear e5 e6
        go_wp2_with fail
        refine HAT.out.mono ?_
        rintro e w4 ⟨rfl, hb4⟩
        have HB4 := Lib.hid hb4
        clear hb4
        go_wp2
        go_ret2
        exact parse_none HON.out (HBW.out.trans (HB4.out.mono (by omega)))
       have g6 : decide (hi < v) = false := decide_eq_false e6
       have HON := Lib.hid (show o = some v by rw [HDP.out, if_pos ⟨HC.out, by omega, by omega⟩])
       clear e5 e6
       go_wp2_with fail
       refine HAT.out.mono ?_
       rintro e w4 ⟨rfl, hb4⟩
       have HB4 := Lib.hid hb4
       clear hb4
       go_wp2
       go_ret2
       exact parse_some HON.out (HBW.out.trans (HB4.out.mono (by omega)))
      ·have HAT := Lib.hid (atoi_range l s0 HS0.out hl ha wr (HEV.out wr HBW.out))
       have HON := Lib.hid (show o = none by rw [HDP.out, if_neg (fun h => by have := h.2; omega)])
       clear ha hv HCAN
       go_wp2_with fail
       refine HAT.out.mono ?_
       rintro e w4 ⟨nn, t, p, rfl, hb4⟩
       have HB4 := Lib.hid hb4
       clear hb4
       go_wp2
       go_ret2
       exact parse_none HON.out (HBW.out.trans (HB4.out.mono (by omega)))
     ·have hs0 : (s0.toList == [48]) = false := by
       rw [← HS0.out, ba_toList]
       simpa using e2
      have hs1 : ¬ s0.toList = [48] := by
       rw [← HS0.out, ba_toList]
       exact e2
      have HON := Lib.hid (show o = none by rw [HDP.out, if_neg (fun h => h.1.2.2 ⟨by rw [HDD.out, u8_int_eq.1 (HX.out.trans e1 : (c.toNat : Int) = ((48 : UInt8).toNat : Int))]; rfl, e2⟩)])
      clear e1 e2
      go_wp2_with fail
      go_ret2
      exact parse_none HON.out HBW.out
    ·have g1 : (x == 48) = false := by simpa using e1
     have HC := Lib.hid (show canonB l from ⟨by rw [HDD.out]; exact HAL.out, by rw [HDD.out]; simp, fun h => by
      have h2 := h.1
      rw [HDD.out] at h2
      have h3 : c = 48 := Option.some.inj h2
      exact e1 (by rw [← HX.out, h3]; rfl)⟩)
     have HCAN := Lib.hid (atoi_canon HC.out)
     clear e1
     rcases HCAN.out with ⟨ha, hv1, hv2⟩ | ⟨ha, hv⟩
     ·have HAT := Lib.hid (atoi_ok l s0 HS0.out hl ha wr)
      obtain ⟨v, hv⟩ : ∃ v, decN l = v := ⟨_, rfl⟩
      rw [hv] at hv1 hv2 HAT HDP
      clear hv ha HCAN
      by_cases e5 : v < lo
      ·have g5 : decide (v < lo) = true := decide_eq_true e5
       have HON := Lib.hid (show o = none by rw [HDP.out, if_neg (fun h => by have := h.2.1; omega)])
       clear e5
       go_wp2_with fail
       refine HAT.out.mono ?_
       rintro e w4 ⟨rfl, hb4⟩
       have HB4 := Lib.hid hb4
       clear hb4
       go_wp2
       go_ret2
       exact parse_none HON.out (HBW.out.trans (HB4.out.mono (by omega)))
      have g5 : decide (v < lo) = false := decide_eq_false e5
      by_cases e6 : hi < v
      ·have g6 : decide (hi < v) = true := decide_eq_true e6
       have HON := Lib.hid (show o = none by rw [HDP.out, if_neg (fun h => by have := h.2.2; omega)])
       clear e5 e6
       go_wp2_with fail
       refine HAT.out.mono ?_
       rintro e w4 ⟨rfl, hb4⟩
       have HB4 := Lib.hid hb4
       clear hb4
       go_wp2
       go_ret2
       exact parse_none HON.out (HBW.out.trans (HB4.out.mono (by omega)))
      have g6 : decide (hi < v) = false := decide_eq_false e6
      have HON := Lib.hid (show o = some v by rw [HDP.out, if_pos ⟨HC.out, by omega, by omega⟩])
      clear e5 e6
      go_wp2_with fail
      refine HAT.out.mono ?_
      rintro e w4 ⟨rfl, hb4⟩
      have HB4 := Lib.hid hb4
      clear hb4
      go_wp2
      go_ret2
      exact parse_some HON.out (HBW.out.trans (HB4.out.mono (by omega)))
     ·have HAT := Lib.hid (atoi_range l s0 HS0.out hl ha wr (HEV.out wr HBW.out))
      have HON := Lib.hid (show o = none by rw [HDP.out, if_neg (fun h => by have := h.2; omega)])
      clear ha hv HCAN
      go_wp2_with fail
      refine HAT.out.mono ?_
      rintro e w4 ⟨nn, t, p, rfl, hb4⟩
      have HB4 := Lib.hid hb4
      clear hb4
      go_wp2
      go_ret2
      exact parse_none HON.out (HBW.out.trans (HB4.out.mono (by omega)))
structure Tabs (w : World) : Prop where
 utf : Lib.Utf8Tabs 1 2 w
 err : ErrVar w
 max : ∃ m, w.cell? ⟨3, 0, none⟩ = some (.int .i64 m)
 lt : 1 < w.heap.size ∧ 2 < w.heap.size ∧ 3 < w.heap.size ∧ 6 < w.heap.size
theorem Tabs.below {w w' : World} (h : Tabs w) (hb : Below w.heap.size w w') : Tabs w' := by
 have hs := hb.size
 obtain ⟨l1, l2, l3, l4⟩ := h.lt
 refine ⟨⟨fun c hc => ?_, fun i hi => ⟨?_, ?_⟩⟩, h.err.keep hb l4, ?_, by omega, by omega, by omega, by omega⟩
 ·exact (hb.cell (p := ⟨1, c, none⟩) l1).trans (h.utf.1 c hc)
 ·exact (hb.cell (p := ⟨2, 2 * i, none⟩) l2).trans (h.utf.2 i hi).1
 ·exact (hb.cell (p := ⟨2, 2 * i + 1, none⟩) l2).trans (h.utf.2 i hi).2
 ·obtain ⟨m, hm⟩ := h.max
  exact ⟨m, (hb.cell (p := ⟨3, 0, none⟩) l3).trans hm⟩
theorem Tabs.drewN {w : World} (h : Tabs w) (n : Nat) : Tabs (w.drewN n) := h.below (below_drewN (Below.refl _ _) n)
theorem num_parse (l : List UInt8) (lo hi : Int) (w : World) (hl : l.length ≤ 1000000000) (hlo : -9223372036854775808 ≤ lo) (hhi : hi ≤ 9223372036854775807) (hT : Tabs w) :
  Calls Tryz.prog 246 #[.string (ba l), .int .i64 lo, .int .i64 hi] w (ParsePost w (decP l lo hi)) := num_parse_any l lo hi w hl hlo hhi hT.err hT.lt.2.2.2
def okN (l : List UInt8) : Bool := decide ((uN l).1 ≠ 65533) || decide (1 < (uN l).2)
def NextPost (w : World) (l : List UInt8) (e : Ending) (w' : World) : Prop := e = .returned (.tuple #[.int .i64 ((uN l).1 : Nat), .string (ba (l.drop (uN l).2)), .bool (okN l)]) ∧ Below w.heap.size w w'
set_option maxRecDepth 100000 in
theorem next_any (l : List UInt8) (w : World) (hl : l.length ≤ 1000000000) (hne : l ≠ []) (hT : Tabs w) :
  Calls Tryz.prog 130 #[.string (ba l)] w (NextPost w l) := by
 have hdg : Lib.decodeGo (ba l) = uN l := by
  unfold Lib.decodeGo
  rw [if_neg (by rw [ba_size]; intro h; exact hne (List.eq_nil_of_length_eq_zero h)), uN_at]
  rfl
 have hcall := Tryz.utf8_DecodeRuneInString (ba l) w hT.utf
 rw [hdg] at hcall
 have hup := uN_pos l hne
 have hok : okN l = (decide ((uN l).1 ≠ 65533) || decide (1 < (uN l).2)) := rfl
 have HDR := Lib.hid (fun m => ba_drop l m)
 have HP := Lib.hid (show ∀ (e : Ending) (w' : World) m r, uN l = (r, m) → e = .returned (.tuple #[.int .i64 (r : Nat), .string (ba (l.drop m)), .bool (okN l)]) → Below w.heap.size w w' → NextPost w l e w' from fun e w' m r h1 h2 h3 => by
  unfold NextPost
  rw [h1]
  exact ⟨h2, h3⟩)
 obtain ⟨⟨r, m⟩, hrm⟩ : ∃ q, uN l = q := ⟨_, rfl⟩
 rw [hrm] at hcall hup hok
 have HRM := Lib.hid hrm
 have HC := Lib.hid hcall
 have hms : m ≤ (ba l).size := by rw [ba_size]; exact hup.2.1
 have hmi : (m : Int) ≤ ((ba l).size : Int) := by omega
 have hm1 : 1 ≤ m := hup.1
 obtain ⟨ob, hob⟩ : ∃ b, okN l = b := ⟨_, rfl⟩
 rw [hob] at hok
 have HOB := Lib.hid hob
 have HOK := Lib.hid hok
 have hr1 : (0 : Int) ≤ (r : Int) := by omega
 have hr2 : (r : Int) ≤ 1114111 := by have := hup.2.2.2; omega
 clear hcall hup hok hrm hob hdg hne
 obtain ⟨s, hs⟩ : ∃ s, ba l = s := ⟨_, rfl⟩
 have HS := Lib.hid hs
 rw [hs] at HC hms hmi ⊢
 clear hs
 obtain ⟨x, hx⟩ : ∃ x : Int, (r : Int) = x := ⟨_, rfl⟩
 have HX := Lib.hid hx
 simp only [hx] at HC hr1 hr2
 clear hx
 by_cases e1 : x = 65533
 ·have g1 : (x != 65533) = false := by simp [e1]
  by_cases e2 : m = 1
  ·have g2 : decide (1 < (m : Int)) = false := decide_eq_false (by omega)
   have HFB := Lib.hid (show ob = false by
    have h1 := HX.out
    have h2 : r = 65533 := by omega
    rw [HOK.out]
    simp [e2, h2])
   clear e1 e2
   go_enter Tryz.func130, Tryz.ntmps130
   go_wp2_with fail
   refine HC.out.mono ?_
   rintro e w2 ⟨rfl, hb⟩
   have HB := Lib.hid hb
   clear hb
   go_wp2
   go_quiet (fail)
   go_wp2
   go_ret3
   exact HP.out _ _ m r HRM.out (by rw [HOB.out, HFB.out, HX.out, ← HDR.out m, HS.out]; rfl) (below_drewN HB.out nq)
  ·have g2 : decide (1 < (m : Int)) = true := decide_eq_true (by omega)
   have HFB := Lib.hid (show ob = true by
    have h2 : decide (1 < m) = true := decide_eq_true (by omega)
    rw [HOK.out]
    show (_ || decide (1 < m)) = true
    rw [h2, Bool.or_true])
   clear e1 e2
   go_enter Tryz.func130, Tryz.ntmps130
   go_wp2_with fail
   refine HC.out.mono ?_
   rintro e w2 ⟨rfl, hb⟩
   have HB := Lib.hid hb
   clear hb
   go_wp2
   go_quiet (fail)
   go_wp2
   go_ret3
   exact HP.out _ _ m r HRM.out (by rw [HOB.out, HFB.out, HX.out, ← HDR.out m, HS.out]; rfl) (below_drewN HB.out nq)
 ·have g1 : (x != 65533) = true := by simpa using e1
  have HFB := Lib.hid (show ob = true by
   have h1 := HX.out
   have h2 : decide (r ≠ 65533) = true := decide_eq_true (by omega)
   rw [HOK.out]
   show (decide (r ≠ 65533) || _) = true
   rw [h2, Bool.true_or])
  clear e1
  go_enter Tryz.func130, Tryz.ntmps130
  go_wp2_with fail
  refine HC.out.mono ?_
  rintro e w2 ⟨rfl, hb⟩
  have HB := Lib.hid hb
  clear hb
  go_wp2
  go_quiet (fail)
  go_wp2
  go_ret3
  exact HP.out _ _ m r HRM.out (by rw [HOB.out, HFB.out, HX.out, ← HDR.out m, HS.out]; rfl) (below_drewN HB.out nq)
def runesF : Nat → List UInt8 → List Int
 | 0, _ => []
 | f + 1, l => if l = [] then [] else ((uN l).1 : Int) :: runesF f (l.drop (uN l).2)
def runesP (l : List UInt8) : List Int := runesF l.length l
theorem runesF_more : ∀ (f g : Nat) (l : List UInt8), l.length ≤ f → l.length ≤ g → runesF f l = runesF g l
 | 0, 0, l, _, _ => rfl
 | 0, g + 1, l, h, _ => by
  have : l = [] := List.eq_nil_of_length_eq_zero (by omega)
  unfold runesF; rw [if_pos this]
 | f + 1, 0, l, _, h => by
  have : l = [] := List.eq_nil_of_length_eq_zero (by omega)
  conv => lhs; unfold runesF
  rw [if_pos this]; rfl
 | f + 1, g + 1, l, hf, hg => by
  unfold runesF
  by_cases e : l = []
  ·rw [if_pos e, if_pos e]
  ·rw [if_neg e, if_neg e]
   have := (uN_pos l e).1
   rw [runesF_more f g (l.drop (uN l).2) (by rw [List.length_drop]; omega) (by rw [List.length_drop]; omega)]
theorem runesP_cons {l : List UInt8} (h : l ≠ []) : runesP l = ((uN l).1 : Int) :: runesP (l.drop (uN l).2) := by
 have h1 := uN_pos l h
 unfold runesP
 cases e : l.length with
 | zero => exact absurd (List.eq_nil_of_length_eq_zero e) h
 | succ n =>
  conv => lhs; unfold runesF
  rw [if_neg h, runesF_more n (l.drop (uN l).2).length _ (by rw [List.length_drop]; omega) (Nat.le_refl _)]
theorem runesP_nil : runesP [] = [] := rfl
def joinR (l : List Int) : List UInt8 := l.flatMap Lib.encodeRune
theorem repairF_eq : ∀ (f : Nat) (l : List UInt8), repairF f l = joinR (runesF f l)
 | 0, _ => rfl
 | f + 1, l => by
  unfold repairF runesF
  split
  ·rfl
  ·rw [repairF_eq f]
   rfl
theorem repairP_eq (l : List UInt8) : repairP l = joinR (runesP l) := repairF_eq _ _
theorem runesF_bd : ∀ (f : Nat) (l : List UInt8), ∀ x ∈ runesF f l, 0 ≤ x ∧ x ≤ 1114111
 | 0, _, x, h => by cases h
 | f + 1, l, x, h => by
  unfold runesF at h
  split at h
  ·cases h
  ·rename_i e
   rcases List.mem_cons.1 h with rfl | h
   ·have := (uN_pos l e).2.2.2; omega
   ·exact runesF_bd f _ x h
theorem runesF_len : ∀ (f : Nat) (l : List UInt8), (runesF f l).length ≤ f
 | 0, _ => by simp [runesF]
 | f + 1, l => by
  unfold runesF
  split
  ·simp
  ·have := runesF_len f (l.drop (uN l).2)
   simp only [List.length_cons]; omega
structure RuRel (w : World) (l r : List UInt8) (acc : List Int) (v : Value) (wr : World) : Prop where
 own : OwnInts wr w.heap.size v acc
 bel : Below w.heap.size w wr
 eq : acc ++ runesP r = runesP l
 len : acc.length + r.length ≤ l.length
theorem OwnInts.below' {w w' : World} {B : Nat} {v : Value} {acc : List Int} (h : OwnInts w B v acc) (hb : Below w.heap.size w w') : OwnInts w' B v acc := h.block fun b e => hb.block b (h.1.lt b e).2
def strOf' : Value → ByteArray
 | .string s => s
 | _ => ⟨#[]⟩
def IntsPost (w : World) (l : List Int) (e : Ending) (w' : World) : Prop := ∃ v, e = .returned v ∧ OwnInts w' w.heap.size v l ∧ Below w.heap.size w w'
set_option maxRecDepth 100000 in
theorem runes_any (l : List UInt8) (w : World) (hl : l.length ≤ 1000000000) (hT : Tabs w) :
  Calls Tryz.prog 63 #[.string (ba l)] w (IntsPost w (runesP l)) := by
 have HT := Lib.hid hT
 clear hT
 go_enter Tryz.func63, Tryz.ntmps63
 go_wp2
 go_loopw [0, 2, 3] (fun s v n wr => ∃ (r : List UInt8) (acc : List Int) (y : Value), n = y ∧ s = .string (ba r) ∧ Hid (RuRel w l r acc v wr)) (fun s _ _ _ => (strOf' s).size)
 case atStart => exact ⟨l, [], _, rfl, rfl, OwnInts.nil_ _ _, Below.refl _ _, rfl, by simp⟩
 case round =>
  obtain ⟨r, acc, y, rfl, rfl, HR⟩ := hrel
  have hsz := HR.out.bel.size
  cases r with
  | nil =>
   have g1 : (ba ([] : List UInt8)).toList.isEmpty = true := by rw [ba_toList]; rfl
   go_wp2
   go_ret
   refine ⟨_, rfl, ?_, HR.out.bel⟩
   have h := HR.out.eq
   rw [runesP_nil, List.append_nil] at h
   rw [← h]
   exact HR.out.own
  | cons c r =>
   have g1 : (ba (c :: r)).toList.isEmpty = false := by rw [ba_toList]; rfl
   have hlen := HR.out.len
   have hcl : (c :: r).length ≤ 1000000000 := by omega
   have HNX := Lib.hid (next_any (c :: r) wr hcl (by simp) (HT.out.below HR.out.bel))
   have HEQ := Lib.hid (runesP_cons (l := c :: r) (by simp))
   have hup := uN_pos (c :: r) (by simp)
   have hbd := runesF_bd 1 (c :: r) ((uN (c :: r)).1 : Int) (by unfold runesF; simp)
   unfold NextPost at HNX
   obtain ⟨ob, hob⟩ : ∃ b, okN (c :: r) = b := ⟨_, rfl⟩
   rw [hob] at HNX
   obtain ⟨⟨x, m⟩, hf⟩ : ∃ v, uN (c :: r) = v := ⟨_, rfl⟩
   rw [hf] at HEQ hup hbd
   simp only [hf] at HNX
   obtain ⟨xi, hxi⟩ : ∃ xi : Int, (x : Int) = xi := ⟨_, rfl⟩
   simp only [hxi] at HNX HEQ hbd
   obtain ⟨d, hd⟩ : ∃ d, (c :: r).drop m = d := ⟨_, rfl⟩
   rw [hd] at HEQ HNX
   have HDL := Lib.hid (show d.length < (c :: r).length by
    have h1 : 1 ≤ m := hup.1
    rw [← hd, List.length_drop]
    have h3 : (c :: r).length = r.length + 1 := rfl
    omega)
   have HBD := Lib.hid hbd
   have HLEN := Lib.hid hlen
   clear hf hd hob hup hbd hxi hlen
   go_wp2_with fail
   refine HNX.out.mono ?_
   rintro e w1 ⟨rfl, hb1⟩
   have HB1 := Lib.hid hb1
   have hsz1 := hb1.size
   clear HNX hb1
   have HOWN := Lib.hid (HR.out.own.below' HB1.out)
   have hB : w.heap.size ≤ w1.heap.size := by omega
   have HYB := Lib.hid (show -9223372036854775808 ≤ xi ∧ xi ≤ 9223372036854775807 by have := HBD.out; omega)
   have HAL := Lib.hid (show acc.length < 1099511627776 by have := HLEN.out; omega)
   go_wp2_with (at_builtin; go_must (refine wpList_push HOWN.out hB HYB.out HAL.out rfl (.tmp 12) (.tmp 14) 46 1 rfl Tryz.underlying46 rfl rfl ?_); intro v2 w2 h1 h2 h3; (have H1 := Lib.hid h1; have H2 := Lib.hid h2; clear h1 h2 h3))
   go_roundw
   case rel =>
    refine ⟨d, acc ++ [xi], _, rfl, rfl, H1.out, (HR.out.bel.trans (HB1.out.mono hsz)).grown H2.out hB fun g e => HOWN.out.base g e, ?_, ?_⟩
    ·rw [List.append_assoc, ← HR.out.eq, HEQ.out]; rfl
    ·have := HDL.out
     have := HLEN.out
     rw [List.length_append]
     show acc.length + 1 + _ ≤ _
     omega
   case measure =>
    show (ba d).size < (ba (c :: r)).size
    rw [ba_size, ba_size]
    exact HDL.out
set_option maxRecDepth 100000 in
theorem enc_eq (n : Int) (h0 : 0 ≤ n) : Utf8.encode n = ba (Lib.encodeRune n) := by
 obtain ⟨r, rfl⟩ : ∃ r : Nat, n = (r : Int) := ⟨n.toNat, by omega⟩
 have key : ∀ l : List UInt8, (Utf8.encode (r : Int)).data.toList = l → Utf8.encode (r : Int) = ba l := fun l h => by
  subst h
  exact (ba_eq _).symm
 apply key
 unfold Lib.encodeRune
 by_cases c1 : r < 128
 ·have v : Utf8.valid (r : Int) = true := by simp [Utf8.valid]; omega
  rw [Lib.encodeRuneZ_one (by omega) (by omega)]
  simp [Utf8.encode, v, c1]
 by_cases c2 : r < 2048
 ·have v : Utf8.valid (r : Int) = true := by simp [Utf8.valid]; omega
  rw [Lib.encodeRuneZ_two (by omega) (by omega)]
  have e1 : (192 + (r : Int) / 64).toNat = 192 + r / 64 := by omega
  have e2 : (128 + (r : Int) % 64).toNat = 128 + r % 64 := by omega
  simp [Utf8.encode, v, c1, c2, e1, e2]
 by_cases hb : (55296 ≤ r ∧ r ≤ 57343) ∨ 1114111 < r
 ·have v : Utf8.valid (r : Int) = false := by simp [Utf8.valid]; omega
  rw [Lib.encodeRuneZ_bad (by omega)]
  simp [Utf8.encode, v, Utf8.runeError]
 have v : Utf8.valid (r : Int) = true := by simp [Utf8.valid]; omega
 by_cases c3 : r < 65536
 ·rw [Lib.encodeRuneZ_three (by omega)]
  have e1 : (224 + (r : Int) / 4096).toNat = 224 + r / 4096 := by omega
  have e2 : (128 + (r : Int) / 64 % 64).toNat = 128 + r / 64 % 64 := by omega
  have e3 : (128 + (r : Int) % 64).toNat = 128 + r % 64 := by omega
  simp [Utf8.encode, v, c1, c2, c3, e1, e2, e3]
 ·rw [Lib.encodeRuneZ_four (by omega) (by omega)]
  have e1 : (240 + (r : Int) / 262144).toNat = 240 + r / 262144 := by omega
  have e2 : (128 + (r : Int) / 4096 % 64).toNat = 128 + r / 4096 % 64 := by omega
  have e3 : (128 + (r : Int) / 64 % 64).toNat = 128 + r / 64 % 64 := by omega
  have e4 : (128 + (r : Int) % 64).toNat = 128 + r % 64 := by omega
  simp [Utf8.encode, v, c1, c2, c3, e1, e2, e3, e4]
theorem enc_len (n : Int) : (Lib.encodeRune n).length ≤ 4 := by
 unfold Lib.encodeRune Lib.encodeRuneZ
 rw [List.length_map]
 repeat' split
 all_goals simp
set_option maxRecDepth 100000 in
theorem rune_any (n : Int) (w : World) (h0 : 0 ≤ n) (h1 : n ≤ 1114111) :
  Calls Tryz.prog 118 #[.int .i64 n] w fun e w' => e = .returned (.string (ba (Lib.encodeRune n))) ∧ w' = w := by
 have g1 : decide (n < 0) = false := decide_eq_false (by omega)
 have g2 : decide (1114111 < n) = false := decide_eq_false (by omega)
 have HE := Lib.hid (enc_eq n h0)
 go_enter Tryz.func118, Tryz.ntmps118
 go_wp2
 go_ret
 exact ⟨by rw [← HE.out]; rfl, rfl⟩
theorem joinR_snoc {l : List Int} {k : Nat} (hk : k < l.length) : joinR (l.take (k + 1)) = joinR (l.take k) ++ Lib.encodeRune (gi l k) := by
 rw [List.take_succ_eq_append_getElem hk]
 unfold joinR
 rw [List.flatMap_append, gi_get hk]
 simp
theorem joinR_len (l : List Int) : (joinR l).length ≤ 4 * l.length := by
 induction l with
 | nil => simp [joinR]
 | cons a r ih =>
  have := enc_len a
  have e : joinR (a :: r) = Lib.encodeRune a ++ joinR r := rfl
  rw [e, List.length_append, List.length_cons]
  omega
set_option maxRecDepth 100000 in
theorem joined_any (ns : List Int) (A : Option Addr) (n c : Nat) (w : World) (hI : Ints w w.heap.size A n ns) (hb : ∀ x ∈ ns, 0 ≤ x ∧ x ≤ 1114111) (hn : n ≤ 1000000000) :
  Calls Tryz.prog 62 #[.slice A n c] w (StrB w (joinR ns)) := by
 have HI := Lib.hid hI
 have HN := Lib.hid hI.len
 have HBD := Lib.hid (show ∀ k, 0 ≤ gi ns k ∧ gi ns k ≤ 1114111 from fun k => by
  unfold gi
  by_cases h : k < ns.length
  ·rw [List.getD_eq_getElem?_getD, List.getElem?_eq_getElem h]
   exact hb _ (List.getElem_mem h)
  ·rw [List.getD_eq_getElem?_getD, List.getElem?_eq_none (by omega)]
   exact ⟨by simp, by simp⟩)
 have HB0 := Lib.hid (bld_new w)
 clear hI hb
 go_enter Tryz.func62, Tryz.ntmps62
 go_wp2
 go_loopw [8] (fun i wr => ∃ k : Nat, k ≤ n ∧ i = .int .i64 (k : Int) ∧ Hid (BRel w w.heap.size (joinR (ns.take k)) wr)) (fun i _ => n - (intOf i).toNat)
 case atStart => exact ⟨0, Nat.zero_le _, rfl, Lib.hid ⟨HB0.out, (Below.refl _ _).alloc (Nat.le_refl _) _⟩⟩
 case round =>
  obtain ⟨k, hk, rfl, HR⟩ := hrel
  have hsz := HR.out.bel.size
  by_cases hlt : k < n
  ·have hk2 : (k : Int) < n := by omega
   obtain ⟨ad, rfl, hbl, c0⟩ := (HI.out.below HR.out.bel).at_ hlt
   have hkl : k < ns.length := by rw [HN.out]; exact hlt
   have HP := Lib.hid (joinR_snoc hkl)
   have hal := joinR_len (ns.take k)
   have hbdk := HBD.out k
   rw [List.length_take] at hal
   have hal2 : (joinR (ns.take k)).length ≤ 4000000000 := by omega
   have HL2 := Lib.hid hal2
   obtain ⟨x, hx⟩ : ∃ x, gi ns k = x := ⟨_, rfl⟩
   rw [hx] at c0 HP hbdk
   have HRU := Lib.hid (rune_any x wr hbdk.1 hbdk.2)
   have hel := enc_len x
   obtain ⟨t, ht⟩ : ∃ t, Lib.encodeRune x = t := ⟨_, rfl⟩
   rw [ht] at HRU HP hel
   have HEL := Lib.hid hel
   clear hx ht hal hal2 hbdk hel hkl
   have HBD2 := Lib.hid HR.out.bld
   have HBE := Lib.hid HR.out.bel
   have HLL := Lib.hid (show (joinR (ns.take k)).length + t.length ≤ 140737488355328 by have := HL2.out; have := HEL.out; omega)
   clear HR
   go_wp2_with fail
   refine HRU.out.mono ?_
   rintro e w2 ⟨rfl, hw2⟩
   have hw3 := hw2.symm
   subst hw3
   clear hw2
   go_wp2_with fail
   refine (write_string _ _ _ t wr HBD2.out HLL.out hsz).mono ?_
   rintro e w2 ⟨rfl, hW⟩
   have HW := Lib.hid hW
   clear hW
   go_wp2
   go_roundw
   case rel =>
    refine ⟨k + 1, by omega, by go_num, Lib.hid ⟨?_, HBE.out.trans HW.out.bel⟩⟩
    rw [HP.out]
    exact HW.out.bld
   case measure => simp [intOf] <;> omega
  ·obtain rfl : k = n := by omega
   go_wp2_with fail
   refine (bld_string _ _ _ wr HR.out.bld hsz).mono ?_
   rintro e w2 ⟨rfl, hW⟩
   have HW := Lib.hid hW
   clear hW
   go_wp2
   go_ret
   exact str_fin (by rw [List.take_of_length_le (by rw [HN.out]; exact Nat.le_refl _)]) (HR.out.bel.trans HW.out.bel)
set_option maxRecDepth 100000 in
theorem repair_any (l : List UInt8) (w : World) (hl : l.length ≤ 1000000000) (hT : Tabs w) :
  Calls Tryz.prog 26 #[.string (ba l)] w (StrB w (repairP l)) := by
 have HRU := Lib.hid (runes_any l w hl hT)
 have HEQ := Lib.hid (repairP_eq l)
 have HRL := Lib.hid (runesF_len l.length l)
 have HRB := Lib.hid (runesF_bd l.length l)
 clear hT
 go_enter Tryz.func26, Tryz.ntmps26
 go_wp2_with fail
 refine HRU.out.mono ?_
 rintro e w1 ⟨v, rfl, hown, hb⟩
 obtain ⟨A, c, rfl, h1, h2, hI⟩ := hown.ints
 have HI := Lib.hid hI
 have HB := Lib.hid hb
 have HLN := Lib.hid (show (runesP l).length ≤ 1000000000 by have : (runesP l).length ≤ l.length := HRL.out; omega)
 clear hown h1 h2 hI hb
 go_wp2_with fail
 refine (joined_any _ _ _ _ w1 HI.out HRB.out HLN.out).mono ?_
 rintro e w2 ⟨rfl, hb2⟩
 have HB2 := Lib.hid hb2
 clear hb2
 go_wp2
 go_ret
 exact str_fin (by rw [HEQ.out]) (HB.out.trans (HB2.out.mono HB.out.size))
end Go.Proofs.YthidbmeaccpjdaaGreatDoor
