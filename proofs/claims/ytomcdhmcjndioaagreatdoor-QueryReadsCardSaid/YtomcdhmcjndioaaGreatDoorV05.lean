/- Layer 1: the contract of Parse. The reference of layer 37: quoted. The reference of layer 37: field. Layer 37: what the package variables hold; strings.Cut, CutSuffix, strings.IndexAny; field. -/
import Derived.Test.YtomcdhmcjndioaaGreatDoorShelfP
import Derived.Lib.OthersKept
import Derived.Deep.QuietTactic
import Derived.IntWalk
import Derived.BigQuiet
import Derived.Deep.RegionHeld3
import Derived.Test.YtomcdhmcjndioaaGreatDoorV04
import Derived.Test.YtomcdhmcjndioaaGreatDoorV02
import Derived.Test.YtomcdhmcjndioaaGreatDoorV03
import Derived.Test.YtomcdhmcjndioaaGreatDoorV01
section
namespace Go.Proofs.YtomcdhmcjndioaaGreatDoor
open Go.RowKit
set_option linter.unusedVariables false

/-- strconv.ErrRange holds some error (or none). -/
def ErrVar (w : World) : Prop := ∃ ev, w.cell? ⟨6, 0, none⟩ = some ev ∧ (ev = .nilIface ∨ ∃ te pe, ev = .iface te pe)
def ParsePost (w : World) (o : Option Int) (e : Ending) (w' : World) : Prop := e = .returned (.tuple #[.int .i64 (o.getD 0), .bool o.isSome]) ∧ Below w.heap.size w w'
theorem parse_none {w w' : World} {o : Option Int} (h : o = none) (hb : Below w.heap.size w w') : ParsePost w o (.returned (.tuple #[.int .i64 0, .bool false])) w' := by
  subst h
  exact ⟨rfl, hb⟩
theorem parse_some {w w' : World} {o : Option Int} {v : Int} (h : o = some v) (hb : Below w.heap.size w w') : ParsePost w o (.returned (.tuple #[.int .i64 v, .bool true])) w' := by
  subst h
  exact ⟨rfl, hb⟩
theorem trim_dash (l : List UInt8) : Lib.trimPrefix l [45] = decD l := by
  unfold Lib.trimPrefix decD
  cases l with
  | nil => rfl
  | cons c r =>
    by_cases h : c = 45
    · subst h; rfl
    · have : ¬ (c :: r).head? = some 45 := fun e => h (Option.some.inj e)
      rw [if_neg this]
      have h2 : List.isPrefixOf [45] (c :: r) = false := by simp [List.isPrefixOf]; exact fun e => h e.symm
      simp [Lib.hasPrefix, h2]
/-- The rune at a place is a digit if the byte is. -/
theorem rune_digit {l : List UInt8} (h : l ≠ []) : (48 ≤ (uN l).1 ∧ (uN l).1 ≤ 57) → digitB (l.getD 0 0) = true ∧ (uN l).2 = 1 := by
  intro hr
  have hc := uN_cases l h
  have hb : bt l 0 = (l.getD 0 0).toNat := rfl
  rcases hc with ⟨h1, h2 | h2⟩ | h2 | h2 | h2
  · exact ⟨digitB_nat.2 (by rw [← hb]; omega), h1⟩
  all_goals omega
theorem digit_rune {l : List UInt8} (h : l ≠ []) (hd : digitB (l.getD 0 0) = true) : 48 ≤ (uN l).1 ∧ (uN l).1 ≤ 57 ∧ (uN l).2 = 1 := by
  have hd2 := digitB_nat.1 hd
  have hb : bt l 0 = (l.getD 0 0).toNat := rfl
  rw [← hb] at hd2
  have hc := uN_cases l h
  rcases hc with ⟨h1, h2 | h2⟩ | h2 | h2 | h2
  · omega
  all_goals omega
/-- The state of the range: all before pos are digits. -/
structure PrRel (w : World) (s : ByteArray) (d : List UInt8) (pos : Nat) (wr : World) : Prop where
  iter : wr.heap[w.heap.size]? = some (.stringIter s pos)
  bel : Below w.heap.size w wr
  dig : (d.take pos).all digitB = true
theorem dig_snoc {d : List UInt8} {k : Nat} (hk : k < d.length) (h : (d.take k).all digitB = true) (h2 : digitB ((d.drop k).getD 0 0) = true) : (d.take (k + 1)).all digitB = true := by
  rw [List.take_succ_eq_append_getElem hk, List.all_append, h]
  have e : (d.drop k).getD 0 0 = d[k] := by simp [List.getD_eq_getElem?_getD, List.getElem?_drop, hk]
  rw [e] at h2
  simp [h2]
theorem not_canon_digit {l : List UInt8} {k : Nat} (hk : k < (decD l).length) (h : digitB (((decD l).drop k).getD 0 0) = false) : ¬ canonB l := by
  rintro ⟨h1, _⟩
  have e : ((decD l).drop k).getD 0 0 = (decD l)[k] := by simp [List.getD_eq_getElem?_getD, List.getElem?_drop, hk]
  rw [e] at h
  have := List.all_eq_true.1 h1 _ (List.getElem_mem hk)
  rw [this] at h
  cases h
def AtoiPost (w : World) (v : Value) (e : Ending) (w' : World) : Prop := e = .returned v ∧ Below w.heap.size w w'
theorem below_bytesWorld (w : World) (e : TypeId) (t : ByteArray) : Below w.heap.size w (Lib.bytesWorld w e t) := by
  unfold Lib.bytesWorld
  exact Lib.below_freeze (((Below.refl _ _).drew).alloc (Nat.le_refl _) _) (p := ⟨w.heap.size, _, none⟩) (Nat.le_refl _) _
theorem atoi_ok (l : List UInt8) (s : ByteArray) (hs : ba l = s) (hl : l.length ≤ 1000000000) {v : Int} (h : Lib.atoiAll l = .ok v) (w : World) : Calls Tryz.prog 125 #[.string s] w (AtoiPost w (.tuple #[.int .i64 v, .nilIface])) := by
  subst hs
  refine (Tryz.strconv_Atoi_ok (ba l) (by rw [ba_size]; omega) v h w).mono ?_
  rintro e w' ⟨rfl, rfl | ⟨t, rfl⟩⟩
  · exact ⟨rfl, Below.refl _ _⟩
  · exact ⟨rfl, below_bytesWorld _ _ _⟩
def AtoiPost2 (w : World) (e : Ending) (w' : World) : Prop := ∃ n t p, e = .returned (.tuple #[.int .i64 n, .iface t p]) ∧ Below w.heap.size w w'
theorem atoi_range (l : List UInt8) (s : ByteArray) (hs : ba l = s) (hl : l.length ≤ 1000000000) (h : Lib.atoiAll l = .range) (w : World) (hE : ErrVar w) : Calls Tryz.prog 125 #[.string s] w (AtoiPost2 w) := by
  subst hs
  obtain ⟨ev, h1, h2⟩ := hE
  refine (Tryz.strconv_Atoi_range (ba l) (by rw [ba_size]; omega) h ev w h1 h2).mono ?_
  rintro e w' ⟨N, rfl, _, _, hb⟩
  exact ⟨_, _, _, rfl, hb⟩
theorem ErrVar.keep {w w' : World} (h : ErrVar w) (hb : Below w.heap.size w w') (hlt : 6 < w.heap.size) : ErrVar w' := by
  obtain ⟨ev, h1, h2⟩ := h
  exact ⟨ev, (hb.cell (p := ⟨6, 0, none⟩) hlt).trans h1, h2⟩
set_option maxRecDepth 100000 in
set_option maxHeartbeats 4000000 in
theorem num_parse_any (l : List UInt8) (lo hi : Int) (w : World) (hl : l.length ≤ 1000000000) (hlo : -9223372036854775808 ≤ lo) (hhi : hi ≤ 9223372036854775807) (hE : ErrVar w) (hlt6 : 6 < w.heap.size) :
    Calls Tryz.prog 109 #[.string (ba l), .int .i64 lo, .int .i64 hi] w (ParsePost w (decP l lo hi)) := by
  have HTR := Lib.hid (fun W => Tryz.strings_TrimPrefix (ba l) (⟨#[45]⟩ : ByteArray) W)
  have HD := Lib.hid (trim_dash l)
  have HDP := Lib.hid (decP_eq l lo hi)
  have hdl : (decD l).length ≤ l.length := by unfold decD; split; rw [List.length_drop]; omega; exact Nat.le_refl _
  have HEV := Lib.hid (fun (W : World) (hb : Below w.heap.size w W) => hE.keep hb hlt6)
  clear hE hlt6
  have HNC := Lib.hid (fun k => not_canon_digit (l := l) (k := k))
  obtain ⟨d, hd⟩ : ∃ d, decD l = d := ⟨_, rfl⟩
  have HDD := Lib.hid hd
  simp only [hd] at HD hdl HNC
  clear hd
  have hdn : d.length ≤ 1000000000 := by omega
  obtain ⟨s, hs⟩ : ∃ s, ba d = s := ⟨_, rfl⟩
  have HS := Lib.hid hs
  have HZ := Lib.hid (show s.size = d.length by rw [← hs, ba_size])
  clear hs hdl
  obtain ⟨o, ho⟩ : ∃ o, decP l lo hi = o := ⟨_, rfl⟩
  rw [ho] at HDP ⊢
  clear ho
  obtain ⟨s0, hs0⟩ : ∃ s, ba l = s := ⟨_, rfl⟩
  have HS0 := Lib.hid hs0
  rw [hs0] at HTR ⊢
  have HTR2 := Lib.hid (show ∀ W, Calls Tryz.prog 124 #[.string s0, .string ⟨#[45]⟩] W fun e w' => e = .returned (.string s) ∧ w' = W from fun W => (HTR.out W).mono (by
    rintro e w' ⟨rfl, rfl⟩
    refine ⟨?_, rfl⟩
    have e : (Lib.trimPrefix s0.data.toList (⟨#[45]⟩ : ByteArray).data.toList) = d := by rw [← HS0.out, ba_list, ← HD.out]
    rw [e, ← HS.out]
    rfl))
  clear HTR hs0
  go_enter Tryz.func109, Tryz.ntmps109
  go_wp2_with fail
  refine (HTR2.out _).mono ?_
  rintro e w2 ⟨rfl, hw2⟩
  have hw3 := hw2.symm
  subst hw3
  clear hw2 HTR2
  go_wp2
  go_loopw [] (fun wr => ∃ pos : Nat, pos ≤ s.size ∧ Hid (PrRel w s d pos wr)) (fun wr => s.size - wr.iterPos w.heap.size)
  case atStart =>
    refine ⟨0, Nat.zero_le _, Lib.hid ⟨?_, (Below.refl _ w).alloc (Nat.le_refl _) _, rfl⟩⟩
    exact World.iter_heap w s 0
  case round =>
    obtain ⟨pos, hpos, HR⟩ := hrel
    have hit := HR.out.iter
    have hbw := HR.out.bel
    have hszr : w.heap.size < wr.heap.size := heap_lt hit
    by_cases hp : pos < s.size
    · have hpd : pos < d.length := by rw [← HZ.out]; exact hp
      have hne : d.drop pos ≠ [] := by intro e; have := congrArg List.length e; rw [List.length_drop] at this; simp at this; omega
      have hnx0 : ∀ ty, (Instr.next (.pointer (some ⟨w.heap.size, 0, none⟩)) true ty).run Tryz.prog wr = _ := fun ty => Lib.run_next_any_at wr w.heap.size s pos ty hit hp
      have hdec : Utf8.decode s pos = uN (d.drop pos) := by rw [← HS.out]; exact uN_at d pos
      have hup := uN_pos _ hne
      have HRD := Lib.hid (rune_digit hne)
      have HDR := Lib.hid (digit_rune hne)
      have HSN := Lib.hid (dig_snoc hpd HR.out.dig)
      have HNO := Lib.hid (HNC.out pos hpd)
      obtain ⟨⟨r, n⟩, hrn⟩ : ∃ q, uN (d.drop pos) = q := ⟨_, rfl⟩
      rw [hrn] at hdec hup HRD HDR
      rw [hdec] at hnx0
      dsimp only at hup hnx0
      rw [List.length_drop, ← HZ.out] at hup
      have hit2 := Lib.iterAt_heap wr w.heap.size s pos (pos + n) hit
      have hbw2 := Lib.below_iterAt hbw (k := w.heap.size) (by omega) s (pos + n)
      obtain ⟨W, hW⟩ : ∃ W, wr.iterAt w.heap.size s (pos + n) = W := ⟨_, rfl⟩
      have HIP := Lib.hid (show wr.iterPos w.heap.size = pos by simp [World.iterPos, hit])
      rw [hW] at hnx0 hit2 hbw2
      have hnx := hnx0
      have HIT := Lib.hid hit2
      have HBW := Lib.hid hbw2
      obtain ⟨x, hx⟩ : ∃ x : Int, (r : Int) = x := ⟨_, rfl⟩
      simp only [hx] at hnx
      have HX := Lib.hid hx
      clear hW hrn hdec hnx0 hit2 hbw2 hit hbw hx hne HR hpd
      by_cases e1 : 48 ≤ x ∧ x ≤ 57
      · have hd1 := HRD.out (by have := HX.out; show 48 ≤ r ∧ r ≤ 57; omega)
        have HD1 := Lib.hid (HSN.out hd1.1)
        have hn1 : n = 1 := hd1.2
        subst hn1
        have g1 : decide (x < 48) = false := decide_eq_false (by omega)
        have g2 : decide (57 < x) = false := decide_eq_false (by omega)
        clear e1 hd1 hup
        go_wp2
        go_roundw
        case rel => exact ⟨pos + 1, by omega, Lib.hid ⟨HIT.out, HBW.out, HD1.out⟩⟩
        case measure =>
          rw [HIP.out]
          have : W.iterPos w.heap.size = pos + 1 := by simp [World.iterPos, HIT.out]
          rw [this]
          omega
      · have HNN := Lib.hid (show ¬ canonB l from HNO.out (by
          cases hdg : digitB ((d.drop pos).getD 0 0) with
          | false => rfl
          | true =>
            have := HDR.out hdg
            exact absurd (show 48 ≤ x ∧ x ≤ 57 by have h := HX.out; have h1 : 48 ≤ r := this.1; have h2 : r ≤ 57 := this.2.1; omega) e1))
        have HON := Lib.hid (show o = none by rw [HDP.out, if_neg (fun h => HNN.out h.1)])
        by_cases e2 : x < 48
        · have g1 : decide (x < 48) = true := decide_eq_true e2
          clear e1 e2 hup
          go_wp2
          go_ret2
          exact parse_none HON.out HBW.out
        · have g1 : decide (x < 48) = false := decide_eq_false e2
          have g2 : decide (57 < x) = true := decide_eq_true (by omega)
          clear e1 e2 hup
          go_wp2
          go_ret2
          exact parse_none HON.out HBW.out
    · have hnx : ∀ ty, (Instr.next (.pointer (some ⟨w.heap.size, 0, none⟩)) true ty).run Tryz.prog wr = _ := fun ty => Lib.run_next_end_at wr w.heap.size s pos ty hit hp
      have HAL := Lib.hid (show d.all digitB = true by
        have := HR.out.dig
        rw [List.take_of_length_le (by rw [← HZ.out]; omega)] at this
        exact this)
      have HBW := Lib.hid hbw
      clear HR hit hbw
      cases d with
      | nil =>
        have hse : s.toList.isEmpty = true := by rw [← HS.out, ba_toList]; rfl
        have HON := Lib.hid (show o = none by rw [HDP.out, if_neg (fun h => h.1.2.1 HDD.out)])
        clear hp hpos
        go_wp2
        go_ret2
        exact parse_none HON.out HBW.out
      | cons c r =>
        have hse : s.toList.isEmpty = false := by rw [← HS.out, ba_toList]; rfl
        have hp0 : 0 < s.size := by rw [HZ.out]; simp
        have hget : s[0] = c := by
          have h := HS.out
          subst h
          rfl
        obtain ⟨x, hx⟩ : ∃ x : Int, (c.toNat : Int) = x := ⟨_, rfl⟩
        have hgi : ((s[0]).toNat : Int) = x := by rw [hget]; exact hx
        have HX := Lib.hid hx
        clear hp hpos hget hx
        by_cases e1 : x = 48
        · have g1 : (x == 48) = true := by simpa using e1
          by_cases e2 : l = [48]
          · have hs0 : s0.toList = [48] := by rw [← HS0.out, ba_toList, e2]
            have HC := Lib.hid (show canonB l from ⟨by rw [HDD.out]; exact HAL.out, by rw [HDD.out]; simp, fun h => h.2 e2⟩)
            have HCAN := Lib.hid (atoi_canon HC.out)
            clear e1 e2
            rcases HCAN.out with ⟨ha, hv1, hv2⟩ | ⟨ha, hv⟩
            · have HAT := Lib.hid (atoi_ok l s0 HS0.out hl ha wr)
              obtain ⟨v, hv⟩ : ∃ v, decN l = v := ⟨_, rfl⟩
              rw [hv] at hv1 hv2 HAT HDP
              clear hv ha HCAN
              by_cases e5 : v < lo
              · have g5 : decide (v < lo) = true := decide_eq_true e5
                have HON := Lib.hid (show o = none by rw [HDP.out, if_neg (fun h => by have := h.2.1; omega)])
                clear e5
                go_wp2_with fail
                refine HAT.out.mono ?_
                rintro e w4 ⟨rfl, hb4⟩
                have HB4 := Lib.hid hb4
                clear hb4
                go_wp2
                go_ret2
                exact parse_none HON.out (HBW.out.trans (HB4.out.mono (by omega)))
              have g5 : decide (v < lo) = false := decide_eq_false e5
              by_cases e6 : hi < v
              · have g6 : decide (hi < v) = true := decide_eq_true e6
                have HON := Lib.hid (show o = none by rw [HDP.out, if_neg (fun h => by have := h.2.2; omega)])
                clear e5 e6
                go_wp2_with fail
                refine HAT.out.mono ?_
                rintro e w4 ⟨rfl, hb4⟩
                have HB4 := Lib.hid hb4
                clear hb4
                go_wp2
                go_ret2
                exact parse_none HON.out (HBW.out.trans (HB4.out.mono (by omega)))
              have g6 : decide (hi < v) = false := decide_eq_false e6
              have HON := Lib.hid (show o = some v by rw [HDP.out, if_pos ⟨HC.out, by omega, by omega⟩])
              clear e5 e6
              go_wp2_with fail
              refine HAT.out.mono ?_
              rintro e w4 ⟨rfl, hb4⟩
              have HB4 := Lib.hid hb4
              clear hb4
              go_wp2
              go_ret2
              exact parse_some HON.out (HBW.out.trans (HB4.out.mono (by omega)))
            · have HAT := Lib.hid (atoi_range l s0 HS0.out hl ha wr (HEV.out wr HBW.out))
              have HON := Lib.hid (show o = none by rw [HDP.out, if_neg (fun h => by have := h.2; omega)])
              clear ha hv HCAN
              go_wp2_with fail
              refine HAT.out.mono ?_
              rintro e w4 ⟨nn, t, p, rfl, hb4⟩
              have HB4 := Lib.hid hb4
              clear hb4
              go_wp2
              go_ret2
              exact parse_none HON.out (HBW.out.trans (HB4.out.mono (by omega)))
          · have hs0 : (s0.toList == [48]) = false := by
              rw [← HS0.out, ba_toList]
              simpa using e2
            have hs1 : ¬ s0.toList = [48] := by
              rw [← HS0.out, ba_toList]
              exact e2
            have HON := Lib.hid (show o = none by rw [HDP.out, if_neg (fun h => h.1.2.2 ⟨by rw [HDD.out, u8_int_eq'.1 (HX.out.trans e1 : (c.toNat : Int) = ((48 : UInt8).toNat : Int))]; rfl, e2⟩)])
            clear e1 e2
            go_wp2_with fail
            go_ret2
            exact parse_none HON.out HBW.out
        · have g1 : (x == 48) = false := by simpa using e1
          have HC := Lib.hid (show canonB l from ⟨by rw [HDD.out]; exact HAL.out, by rw [HDD.out]; simp, fun h => by
            have h2 := h.1
            rw [HDD.out] at h2
            have h3 : c = 48 := Option.some.inj h2
            exact e1 (by rw [← HX.out, h3]; rfl)⟩)
          have HCAN := Lib.hid (atoi_canon HC.out)
          clear e1
          rcases HCAN.out with ⟨ha, hv1, hv2⟩ | ⟨ha, hv⟩
          · have HAT := Lib.hid (atoi_ok l s0 HS0.out hl ha wr)
            obtain ⟨v, hv⟩ : ∃ v, decN l = v := ⟨_, rfl⟩
            rw [hv] at hv1 hv2 HAT HDP
            clear hv ha HCAN
            by_cases e5 : v < lo
            · have g5 : decide (v < lo) = true := decide_eq_true e5
              have HON := Lib.hid (show o = none by rw [HDP.out, if_neg (fun h => by have := h.2.1; omega)])
              clear e5
              go_wp2_with fail
              refine HAT.out.mono ?_
              rintro e w4 ⟨rfl, hb4⟩
              have HB4 := Lib.hid hb4
              clear hb4
              go_wp2
              go_ret2
              exact parse_none HON.out (HBW.out.trans (HB4.out.mono (by omega)))
            have g5 : decide (v < lo) = false := decide_eq_false e5
            by_cases e6 : hi < v
            · have g6 : decide (hi < v) = true := decide_eq_true e6
              have HON := Lib.hid (show o = none by rw [HDP.out, if_neg (fun h => by have := h.2.2; omega)])
              clear e5 e6
              go_wp2_with fail
              refine HAT.out.mono ?_
              rintro e w4 ⟨rfl, hb4⟩
              have HB4 := Lib.hid hb4
              clear hb4
              go_wp2
              go_ret2
              exact parse_none HON.out (HBW.out.trans (HB4.out.mono (by omega)))
            have g6 : decide (hi < v) = false := decide_eq_false e6
            have HON := Lib.hid (show o = some v by rw [HDP.out, if_pos ⟨HC.out, by omega, by omega⟩])
            clear e5 e6
            go_wp2_with fail
            refine HAT.out.mono ?_
            rintro e w4 ⟨rfl, hb4⟩
            have HB4 := Lib.hid hb4
            clear hb4
            go_wp2
            go_ret2
            exact parse_some HON.out (HBW.out.trans (HB4.out.mono (by omega)))
          · have HAT := Lib.hid (atoi_range l s0 HS0.out hl ha wr (HEV.out wr HBW.out))
            have HON := Lib.hid (show o = none by rw [HDP.out, if_neg (fun h => by have := h.2; omega)])
            clear ha hv HCAN
            go_wp2_with fail
            refine HAT.out.mono ?_
            rintro e w4 ⟨nn, t, p, rfl, hb4⟩
            have HB4 := Lib.hid hb4
            clear hb4
            go_wp2
            go_ret2
            exact parse_none HON.out (HBW.out.trans (HB4.out.mono (by omega)))
end Go.Proofs.YtomcdhmcjndioaaGreatDoor
end
section
namespace Go.Proofs.YtomcdhmcjndioaaGreatDoor
open Go.RowKit
set_option linter.unusedVariables false

/-- Where a quoted string ends whose opening quote stands at a, or -1. -/
def endQ (s : List UInt8) (a : Nat) : Int := if 34 ∈ s.drop (a + 1) then (a : Int) + ((s.drop (a + 1)).takeWhile (· != 34)).length + 2 else -1
theorem while_at : ∀ (r : List UInt8) (k : Nat) (hk : k < r.length), (r.take k).all (· != 34) = true → r[k] = 34 → 34 ∈ r ∧ (r.takeWhile (· != 34)).length = k
  | [], k, hk, _, _ => by simp at hk
  | c :: r, 0, hk, _, h => by
    have hc : c = 34 := h
    subst hc
    exact ⟨List.mem_cons_self, rfl⟩
  | c :: r, k + 1, hk, h1, h2 => by
    rw [List.take_succ_cons, List.all_cons, Bool.and_eq_true] at h1
    obtain ⟨i1, i2⟩ := while_at r k (by simpa using hk) h1.2 h2
    exact ⟨List.mem_cons_of_mem _ i1, by rw [List.takeWhile_cons_of_pos (p := (· != 34)) h1.1, List.length_cons, i2]⟩
theorem end_hit {s : List UInt8} {a k : Nat} (hk : k < (s.drop (a + 1)).length) (h : ((s.drop (a + 1)).take k).all (· != 34) = true) (he : (s.drop (a + 1))[k] = 34) : endQ s a = (a : Int) + k + 2 := by
  obtain ⟨h1, h2⟩ := while_at _ k hk h he
  unfold endQ
  rw [if_pos h1, h2]
theorem end_miss {s : List UInt8} {a : Nat} (h : (s.drop (a + 1)).all (· != 34) = true) : endQ s a = -1 := by
  unfold endQ
  rw [if_neg]
  intro hm
  have := List.all_eq_true.1 h _ hm
  exact absurd this (by decide)
theorem end_step {s : List UInt8} {a j : Nat} (ha : a + 1 ≤ j) (hj : j < s.length) (h : ((s.drop (a + 1)).take (j - (a + 1))).all (· != 34) = true) (hne : s[j] ≠ 34) : ((s.drop (a + 1)).take (j + 1 - (a + 1))).all (· != 34) = true := by
  have hk : j - (a + 1) < (s.drop (a + 1)).length := by rw [List.length_drop]; omega
  rw [show j + 1 - (a + 1) = (j - (a + 1)) + 1 by omega, List.take_succ_eq_append_getElem hk, List.all_append, h, List.getElem_drop]
  simp only [show a + 1 + (j - (a + 1)) = j by omega]
  simpa using hne
theorem end_at {s : List UInt8} {a j : Nat} (ha : a + 1 ≤ j) (hj : j < s.length) (h : ((s.drop (a + 1)).take (j - (a + 1))).all (· != 34) = true) (he : s[j] = 34) : endQ s a = (j : Int) + 1 := by
  have hk : j - (a + 1) < (s.drop (a + 1)).length := by rw [List.length_drop]; omega
  rw [end_hit hk h (by rw [List.getElem_drop]; simp only [show a + 1 + (j - (a + 1)) = j by omega]; exact he)]
  omega
theorem end_none {s : List UInt8} {a : Nat} (ha : a + 1 ≤ s.length) (h : ((s.drop (a + 1)).take (s.length - (a + 1))).all (· != 34) = true) : endQ s a = -1 := by
  refine end_miss ?_
  rw [List.take_of_length_le (by rw [List.length_drop]; omega)] at h
  exact h
set_option maxRecDepth 100000 in
set_option maxHeartbeats 4000000 in
theorem rquoted_any (l : List UInt8) (a : Nat) (w : World) (hl : l.length ≤ 1000000000) (ha : a < l.length) :
    Calls Tryz.prog 33 #[.string (ba l), .int .i64 (a : Int)] w fun e w' => e = .returned (.int .i64 (endQ l a)) ∧ w' = w := by
  obtain ⟨n, hn⟩ : ∃ n, l.length = n := ⟨_, rfl⟩
  have HL := Lib.hid hn
  obtain ⟨s, hs⟩ : ∃ s, ba l = s := ⟨_, rfl⟩
  have HS := Lib.hid hs
  have HZ := Lib.hid (show s.size = n by rw [← hs, ba_size, hn])
  have hsz : (s.size : Int) = n := by rw [HZ.out]
  rw [hs]
  rw [hn] at hl ha
  clear hs hn
  go_enter Tryz.func33, Tryz.ntmps33
  go_wp2
  go_loop [4, 5] (fun b i => ∃ (j : Nat) (y : Value), b = y ∧ a + 1 ≤ j ∧ j ≤ n ∧ i = .int .i64 (j : Int) ∧ Hid (((l.drop (a + 1)).take (j - (a + 1))).all (· != 34) = true)) (fun _ i => n - (intOf i).toNat)
  case atStart => exact ⟨a + 1, _, rfl, Nat.le_refl _, ha, by go_num, Lib.hid (by rw [Nat.sub_self]; rfl)⟩
  case round =>
    obtain ⟨j, y, rfl, hj1, hj, rfl, HR⟩ := hrel
    by_cases hlt : j < n
    · have hk2 : (j : Int) < (n : Int) := by omega
      have hk0 : (0 : Int) ≤ (j : Int) := by omega
      have hks : j < s.size := by rw [HZ.out]; omega
      have hkl : j < l.length := by rw [HL.out]; omega
      have hget : s[j] = l[j] := by
        have h := HS.out
        subst h
        rfl
      have HST := Lib.hid (fun (h : l[j] ≠ 34) => end_step hj1 hkl HR.out h)
      have HAT := Lib.hid (fun (h : l[j] = 34) => end_at hj1 hkl HR.out h)
      obtain ⟨c, hc⟩ : ∃ c, l[j] = c := ⟨_, rfl⟩
      rw [hc] at hget HST HAT
      obtain ⟨x, hx⟩ : ∃ x : Int, (c.toNat : Int) = x := ⟨_, rfl⟩
      have hgi : ((s[j]).toNat : Int) = x := by rw [hget]; exact hx
      have HX := Lib.hid hx
      have hx0 : 0 ≤ x := by omega
      have hx1 : x ≤ 255 := by have := c.toNat_lt; omega
      clear hc hkl hget hx
      by_cases e1 : x = 34
      · have HV := Lib.hid (HAT.out (UInt8.toNat_inj.1 (by have := HX.out; show c.toNat = 34; omega)))
        have g1 : (x == 34) = true := by simpa using e1
        clear e1
        go_wp2
        go_ret
        rw [HV.out]
        exact ⟨by go_num, rfl⟩
      · have HN := Lib.hid (HST.out (fun h => e1 (by rw [← HX.out, h]; rfl)))
        have g1 : (x == 34) = false := by simpa using e1
        clear e1
        go_wp2
        go_round
        case rel => exact ⟨j + 1, _, rfl, by omega, by omega, by go_num, HN⟩
        case measure => simp [intOf] <;> omega
    · obtain rfl : j = n := by omega
      have HV := Lib.hid (end_none (by rw [HL.out]; exact hj1) (by rw [HL.out]; exact HR.out))
      go_wp2
      go_ret
      rw [HV.out]
      exact ⟨rfl, rfl⟩
end Go.Proofs.YtomcdhmcjndioaaGreatDoor
end
section
namespace Go.Proofs.YtomcdhmcjndioaaGreatDoor
open Go.RowKit
set_option linter.unusedVariables false

theorem field_at (s : List UInt8) : (smallP s = [102, 114, 111, 109] ↔ fieldQ s = 1) ∧ (smallP s = [116, 111] ↔ fieldQ s = 2) ∧ (smallP s = [115, 117, 98, 106, 101, 99, 116] ↔ fieldQ s = 3) ∧ (smallP s = [98, 111, 100, 121] ↔ fieldQ s = 4) ∧ (smallP s = [102, 105, 108, 101] ↔ fieldQ s = 5) ∧ fieldQ s ≤ 5 := by
  unfold fieldQ
  by_cases h1 : smallP s = [102, 114, 111, 109]
  · rw [h1]; decide
  · by_cases h2 : smallP s = [116, 111]
    · rw [h2]; decide
    · by_cases h3 : smallP s = [115, 117, 98, 106, 101, 99, 116]
      · rw [h3]; decide
      · by_cases h4 : smallP s = [98, 111, 100, 121]
        · rw [h4]; decide
        · by_cases h5 : smallP s = [102, 105, 108, 101]
          · rw [h5]; decide
          · simp [h1, h2, h3, h4, h5]
set_option maxRecDepth 100000 in
set_option maxHeartbeats 4000000 in
theorem rfield_any (l : List UInt8) (w : World) (hl : l.length ≤ 1000000000) :
    Calls Tryz.prog 34 #[.string (ba l)] w fun e w' => e = .returned (.int .i64 (fieldQ l : Nat)) ∧ Below w.heap.size w w' := by
  have HSM := Lib.hid (fun W => rqsmall_any l W hl)
  unfold StrB at HSM
  obtain ⟨f1, f2, f3, f4, f5, f6⟩ := field_at l
  obtain ⟨F, hF⟩ : ∃ F, fieldQ l = F := ⟨_, rfl⟩
  rw [hF] at f1 f2 f3 f4 f5 f6 ⊢
  obtain ⟨t, ht⟩ : ∃ t, ba (smallP l) = t := ⟨_, rfl⟩
  obtain ⟨s, hs⟩ : ∃ s, ba l = s := ⟨_, rfl⟩
  have k1 : (⟨#[102, 114, 111, 109]⟩ : ByteArray) = t ↔ F = 1 := by rw [← f1, ← ht, eq_comm]; exact ba_inj (b := [102, 114, 111, 109])
  have k2 : (⟨#[116, 111]⟩ : ByteArray) = t ↔ F = 2 := by rw [← f2, ← ht, eq_comm]; exact ba_inj (b := [116, 111])
  have k3 : (⟨#[115, 117, 98, 106, 101, 99, 116]⟩ : ByteArray) = t ↔ F = 3 := by rw [← f3, ← ht, eq_comm]; exact ba_inj (b := [115, 117, 98, 106, 101, 99, 116])
  have k4 : (⟨#[98, 111, 100, 121]⟩ : ByteArray) = t ↔ F = 4 := by rw [← f4, ← ht, eq_comm]; exact ba_inj (b := [98, 111, 100, 121])
  have k5 : (⟨#[102, 105, 108, 101]⟩ : ByteArray) = t ↔ F = 5 := by rw [← f5, ← ht, eq_comm]; exact ba_inj (b := [102, 105, 108, 101])
  have n1 : (⟨#[102, 114, 111, 109]⟩ : ByteArray).toList = t.toList ↔ F = 1 := by rw [← f1, ← ht, ba_toList, show (⟨#[102, 114, 111, 109]⟩ : ByteArray).toList = [102, 114, 111, 109] from ba_toList [102, 114, 111, 109]]; exact eq_comm
  have n2 : (⟨#[116, 111]⟩ : ByteArray).toList = t.toList ↔ F = 2 := by rw [← f2, ← ht, ba_toList, show (⟨#[116, 111]⟩ : ByteArray).toList = [116, 111] from ba_toList [116, 111]]; exact eq_comm
  have n3 : (⟨#[115, 117, 98, 106, 101, 99, 116]⟩ : ByteArray).toList = t.toList ↔ F = 3 := by rw [← f3, ← ht, ba_toList, show (⟨#[115, 117, 98, 106, 101, 99, 116]⟩ : ByteArray).toList = [115, 117, 98, 106, 101, 99, 116] from ba_toList [115, 117, 98, 106, 101, 99, 116]]; exact eq_comm
  have n4 : (⟨#[98, 111, 100, 121]⟩ : ByteArray).toList = t.toList ↔ F = 4 := by rw [← f4, ← ht, ba_toList, show (⟨#[98, 111, 100, 121]⟩ : ByteArray).toList = [98, 111, 100, 121] from ba_toList [98, 111, 100, 121]]; exact eq_comm
  have n5 : (⟨#[102, 105, 108, 101]⟩ : ByteArray).toList = t.toList ↔ F = 5 := by rw [← f5, ← ht, ba_toList, show (⟨#[102, 105, 108, 101]⟩ : ByteArray).toList = [102, 105, 108, 101] from ba_toList [102, 105, 108, 101]]; exact eq_comm
  rw [ht, hs] at HSM
  rw [hs]
  clear f1 f2 f3 f4 f5 ht hs hF
  go_enter Tryz.func34, Tryz.ntmps34
  go_wp2
  obtain ⟨W0, hW0⟩ : ∃ W0, w.alloc (.cells #[.string ⟨#[]⟩, .string ⟨#[102, 114, 111, 109]⟩, .string ⟨#[116, 111]⟩, .string ⟨#[115, 117, 98, 106, 101, 99, 116]⟩, .string ⟨#[98, 111, 100, 121]⟩, .string ⟨#[102, 105, 108, 101]⟩] 9) = W0 := ⟨_, rfl⟩
  have c1 : W0.cell? ⟨w.heap.size, 1, none⟩ = some (.string ⟨#[102, 114, 111, 109]⟩) := by subst hW0; go_simp
  have c2 : W0.cell? ⟨w.heap.size, 2, none⟩ = some (.string ⟨#[116, 111]⟩) := by subst hW0; go_simp
  have c3 : W0.cell? ⟨w.heap.size, 3, none⟩ = some (.string ⟨#[115, 117, 98, 106, 101, 99, 116]⟩) := by subst hW0; go_simp
  have c4 : W0.cell? ⟨w.heap.size, 4, none⟩ = some (.string ⟨#[98, 111, 100, 121]⟩) := by subst hW0; go_simp
  have c5 : W0.cell? ⟨w.heap.size, 5, none⟩ = some (.string ⟨#[102, 105, 108, 101]⟩) := by subst hW0; go_simp
  have hz : w.heap.size < W0.heap.size := by subst hW0; simp
  have HB0 := Lib.hid (show Below w.heap.size w W0 by subst hW0; exact (Below.refl _ _).alloc (Nat.le_refl _) _)
  try rw [hW0]
  clear hW0
  go_loopw [4] (fun i wr => ∃ k : Nat, 1 ≤ k ∧ k ≤ 6 ∧ (F = 0 ∨ k ≤ F) ∧ i = .int .i64 (k : Int) ∧ Hid (Below W0.heap.size W0 wr)) (fun i _ => 6 - (intOf i).toNat)
  case atStart => exact ⟨1, Nat.le_refl _, by omega, by omega, rfl, Lib.hid (Below.refl _ _)⟩
  case round =>
    obtain ⟨k, hk1, hk6, hkF, rfl, HR⟩ := hrel
    rcases (show k = 1 ∨ k = 2 ∨ k = 3 ∨ k = 4 ∨ k = 5 ∨ k = 6 by omega) with h | h | h | h | h | h <;> subst h
    · have d1 : wr.cell? ⟨w.heap.size, 1, none⟩ = some (.string ⟨#[102, 114, 111, 109]⟩) := (HR.out.cell (p := ⟨w.heap.size, 1, none⟩) hz).trans c1
      have hzr : w.heap.size < wr.heap.size := Nat.lt_of_lt_of_le hz HR.out.size
      by_cases hf : F = 1
      · have g1 : decide ((⟨#[102, 114, 111, 109]⟩ : ByteArray) = t) = true := decide_eq_true (k1.2 hf)
        have g2 : (⟨#[102, 114, 111, 109]⟩ : ByteArray).toList = t.toList := n1.2 hf
        have g3 : (⟨#[102, 114, 111, 109]⟩ : ByteArray) = t := k1.2 hf
        go_wp2_with fail
        go_region_held3 (fun w' => w'.cell? ⟨w.heap.size, 1, none⟩ = some (.string ⟨#[102, 114, 111, 109]⟩))
          (first | assumption | go_keep)
          (first
            | (go_simp; go_at_call 51; refine (HSM.out _).mono ?_; rintro e v1 ⟨rfl, hb⟩; (
                have HV1 := Lib.hid (show Below wr.heap.size wr v1 from (show Below wr.heap.size wr wr.drew from (Below.refl _ _).drew).trans (hb.mono (Nat.le_refl _)))
                have p0 : v1.cell? ⟨w.heap.size, 1, none⟩ = some (.string ⟨#[102, 114, 111, 109]⟩) := (HV1.out.cell (p := ⟨w.heap.size, 1, none⟩) hzr).trans d1
                clear hb))
            | fail)
        all_goals
          have HB2 := Lib.hid (HR.out.trans (HV1.out.mono HR.out.size))
          go_wp2
          go_ret
          exact ⟨by rw [hf]; rfl, HB0.out.trans (HB2.out.mono (Nat.le_of_lt hz))⟩
      · have g1 : decide ((⟨#[102, 114, 111, 109]⟩ : ByteArray) = t) = false := decide_eq_false fun h => hf (k1.1 h)
        have g2 : ¬ (⟨#[102, 114, 111, 109]⟩ : ByteArray).toList = t.toList := fun h => hf (n1.1 h)
        have g3 : ¬ (⟨#[102, 114, 111, 109]⟩ : ByteArray) = t := fun h => hf (k1.1 h)
        have g4 : (([102, 114, 111, 109] : List UInt8) == t.toList) = false := beq_eq_false_iff_ne.2 fun h => hf (n1.1 ((ba_toList [102, 114, 111, 109]).trans h))
        go_wp2_with fail
        go_region_held3 (fun w' => w'.cell? ⟨w.heap.size, 1, none⟩ = some (.string ⟨#[102, 114, 111, 109]⟩))
          (first | assumption | go_keep)
          (first
            | (go_simp; go_at_call 51; refine (HSM.out _).mono ?_; rintro e v1 ⟨rfl, hb⟩; (
                have HV1 := Lib.hid (show Below wr.heap.size wr v1 from (show Below wr.heap.size wr wr.drew from (Below.refl _ _).drew).trans (hb.mono (Nat.le_refl _)))
                have p0 : v1.cell? ⟨w.heap.size, 1, none⟩ = some (.string ⟨#[102, 114, 111, 109]⟩) := (HV1.out.cell (p := ⟨w.heap.size, 1, none⟩) hzr).trans d1
                clear hb))
            | fail)
        all_goals
          have HB2 := Lib.hid (HR.out.trans (HV1.out.mono HR.out.size))
          go_wp2
          go_roundw
          all_goals first
            | exact ⟨⟨2, by omega, by omega, by omega, rfl, HB2⟩, by decide⟩
            | rfl
            | exact ⟨2, by omega, by omega, by omega, rfl, HB2⟩
            | (simp [intOf] <;> omega)
    · have d1 : wr.cell? ⟨w.heap.size, 2, none⟩ = some (.string ⟨#[116, 111]⟩) := (HR.out.cell (p := ⟨w.heap.size, 2, none⟩) hz).trans c2
      have hzr : w.heap.size < wr.heap.size := Nat.lt_of_lt_of_le hz HR.out.size
      by_cases hf : F = 2
      · have g1 : decide ((⟨#[116, 111]⟩ : ByteArray) = t) = true := decide_eq_true (k2.2 hf)
        have g2 : (⟨#[116, 111]⟩ : ByteArray).toList = t.toList := n2.2 hf
        have g3 : (⟨#[116, 111]⟩ : ByteArray) = t := k2.2 hf
        go_wp2_with fail
        go_region_held3 (fun w' => w'.cell? ⟨w.heap.size, 2, none⟩ = some (.string ⟨#[116, 111]⟩))
          (first | assumption | go_keep)
          (first
            | (go_simp; go_at_call 51; refine (HSM.out _).mono ?_; rintro e v1 ⟨rfl, hb⟩; (
                have HV1 := Lib.hid (show Below wr.heap.size wr v1 from (show Below wr.heap.size wr wr.drew from (Below.refl _ _).drew).trans (hb.mono (Nat.le_refl _)))
                have p0 : v1.cell? ⟨w.heap.size, 2, none⟩ = some (.string ⟨#[116, 111]⟩) := (HV1.out.cell (p := ⟨w.heap.size, 2, none⟩) hzr).trans d1
                clear hb))
            | fail)
        all_goals
          have HB2 := Lib.hid (HR.out.trans (HV1.out.mono HR.out.size))
          go_wp2
          go_ret
          exact ⟨by rw [hf]; rfl, HB0.out.trans (HB2.out.mono (Nat.le_of_lt hz))⟩
      · have g1 : decide ((⟨#[116, 111]⟩ : ByteArray) = t) = false := decide_eq_false fun h => hf (k2.1 h)
        have g2 : ¬ (⟨#[116, 111]⟩ : ByteArray).toList = t.toList := fun h => hf (n2.1 h)
        have g3 : ¬ (⟨#[116, 111]⟩ : ByteArray) = t := fun h => hf (k2.1 h)
        have g4 : (([116, 111] : List UInt8) == t.toList) = false := beq_eq_false_iff_ne.2 fun h => hf (n2.1 ((ba_toList [116, 111]).trans h))
        go_wp2_with fail
        go_region_held3 (fun w' => w'.cell? ⟨w.heap.size, 2, none⟩ = some (.string ⟨#[116, 111]⟩))
          (first | assumption | go_keep)
          (first
            | (go_simp; go_at_call 51; refine (HSM.out _).mono ?_; rintro e v1 ⟨rfl, hb⟩; (
                have HV1 := Lib.hid (show Below wr.heap.size wr v1 from (show Below wr.heap.size wr wr.drew from (Below.refl _ _).drew).trans (hb.mono (Nat.le_refl _)))
                have p0 : v1.cell? ⟨w.heap.size, 2, none⟩ = some (.string ⟨#[116, 111]⟩) := (HV1.out.cell (p := ⟨w.heap.size, 2, none⟩) hzr).trans d1
                clear hb))
            | fail)
        all_goals
          have HB2 := Lib.hid (HR.out.trans (HV1.out.mono HR.out.size))
          go_wp2
          go_roundw
          all_goals first
            | exact ⟨⟨3, by omega, by omega, by omega, rfl, HB2⟩, by decide⟩
            | rfl
            | exact ⟨3, by omega, by omega, by omega, rfl, HB2⟩
            | (simp [intOf] <;> omega)
    · have d1 : wr.cell? ⟨w.heap.size, 3, none⟩ = some (.string ⟨#[115, 117, 98, 106, 101, 99, 116]⟩) := (HR.out.cell (p := ⟨w.heap.size, 3, none⟩) hz).trans c3
      have hzr : w.heap.size < wr.heap.size := Nat.lt_of_lt_of_le hz HR.out.size
      by_cases hf : F = 3
      · have g1 : decide ((⟨#[115, 117, 98, 106, 101, 99, 116]⟩ : ByteArray) = t) = true := decide_eq_true (k3.2 hf)
        have g2 : (⟨#[115, 117, 98, 106, 101, 99, 116]⟩ : ByteArray).toList = t.toList := n3.2 hf
        have g3 : (⟨#[115, 117, 98, 106, 101, 99, 116]⟩ : ByteArray) = t := k3.2 hf
        go_wp2_with fail
        go_region_held3 (fun w' => w'.cell? ⟨w.heap.size, 3, none⟩ = some (.string ⟨#[115, 117, 98, 106, 101, 99, 116]⟩))
          (first | assumption | go_keep)
          (first
            | (go_simp; go_at_call 51; refine (HSM.out _).mono ?_; rintro e v1 ⟨rfl, hb⟩; (
                have HV1 := Lib.hid (show Below wr.heap.size wr v1 from (show Below wr.heap.size wr wr.drew from (Below.refl _ _).drew).trans (hb.mono (Nat.le_refl _)))
                have p0 : v1.cell? ⟨w.heap.size, 3, none⟩ = some (.string ⟨#[115, 117, 98, 106, 101, 99, 116]⟩) := (HV1.out.cell (p := ⟨w.heap.size, 3, none⟩) hzr).trans d1
                clear hb))
            | fail)
        all_goals
          have HB2 := Lib.hid (HR.out.trans (HV1.out.mono HR.out.size))
          go_wp2
          go_ret
          exact ⟨by rw [hf]; rfl, HB0.out.trans (HB2.out.mono (Nat.le_of_lt hz))⟩
      · have g1 : decide ((⟨#[115, 117, 98, 106, 101, 99, 116]⟩ : ByteArray) = t) = false := decide_eq_false fun h => hf (k3.1 h)
        have g2 : ¬ (⟨#[115, 117, 98, 106, 101, 99, 116]⟩ : ByteArray).toList = t.toList := fun h => hf (n3.1 h)
        have g3 : ¬ (⟨#[115, 117, 98, 106, 101, 99, 116]⟩ : ByteArray) = t := fun h => hf (k3.1 h)
        have g4 : (([115, 117, 98, 106, 101, 99, 116] : List UInt8) == t.toList) = false := beq_eq_false_iff_ne.2 fun h => hf (n3.1 ((ba_toList [115, 117, 98, 106, 101, 99, 116]).trans h))
        go_wp2_with fail
        go_region_held3 (fun w' => w'.cell? ⟨w.heap.size, 3, none⟩ = some (.string ⟨#[115, 117, 98, 106, 101, 99, 116]⟩))
          (first | assumption | go_keep)
          (first
            | (go_simp; go_at_call 51; refine (HSM.out _).mono ?_; rintro e v1 ⟨rfl, hb⟩; (
                have HV1 := Lib.hid (show Below wr.heap.size wr v1 from (show Below wr.heap.size wr wr.drew from (Below.refl _ _).drew).trans (hb.mono (Nat.le_refl _)))
                have p0 : v1.cell? ⟨w.heap.size, 3, none⟩ = some (.string ⟨#[115, 117, 98, 106, 101, 99, 116]⟩) := (HV1.out.cell (p := ⟨w.heap.size, 3, none⟩) hzr).trans d1
                clear hb))
            | fail)
        all_goals
          have HB2 := Lib.hid (HR.out.trans (HV1.out.mono HR.out.size))
          go_wp2
          go_roundw
          all_goals first
            | exact ⟨⟨4, by omega, by omega, by omega, rfl, HB2⟩, by decide⟩
            | rfl
            | exact ⟨4, by omega, by omega, by omega, rfl, HB2⟩
            | (simp [intOf] <;> omega)
    · have d1 : wr.cell? ⟨w.heap.size, 4, none⟩ = some (.string ⟨#[98, 111, 100, 121]⟩) := (HR.out.cell (p := ⟨w.heap.size, 4, none⟩) hz).trans c4
      have hzr : w.heap.size < wr.heap.size := Nat.lt_of_lt_of_le hz HR.out.size
      by_cases hf : F = 4
      · have g1 : decide ((⟨#[98, 111, 100, 121]⟩ : ByteArray) = t) = true := decide_eq_true (k4.2 hf)
        have g2 : (⟨#[98, 111, 100, 121]⟩ : ByteArray).toList = t.toList := n4.2 hf
        have g3 : (⟨#[98, 111, 100, 121]⟩ : ByteArray) = t := k4.2 hf
        go_wp2_with fail
        go_region_held3 (fun w' => w'.cell? ⟨w.heap.size, 4, none⟩ = some (.string ⟨#[98, 111, 100, 121]⟩))
          (first | assumption | go_keep)
          (first
            | (go_simp; go_at_call 51; refine (HSM.out _).mono ?_; rintro e v1 ⟨rfl, hb⟩; (
                have HV1 := Lib.hid (show Below wr.heap.size wr v1 from (show Below wr.heap.size wr wr.drew from (Below.refl _ _).drew).trans (hb.mono (Nat.le_refl _)))
                have p0 : v1.cell? ⟨w.heap.size, 4, none⟩ = some (.string ⟨#[98, 111, 100, 121]⟩) := (HV1.out.cell (p := ⟨w.heap.size, 4, none⟩) hzr).trans d1
                clear hb))
            | fail)
        all_goals
          have HB2 := Lib.hid (HR.out.trans (HV1.out.mono HR.out.size))
          go_wp2
          go_ret
          exact ⟨by rw [hf]; rfl, HB0.out.trans (HB2.out.mono (Nat.le_of_lt hz))⟩
      · have g1 : decide ((⟨#[98, 111, 100, 121]⟩ : ByteArray) = t) = false := decide_eq_false fun h => hf (k4.1 h)
        have g2 : ¬ (⟨#[98, 111, 100, 121]⟩ : ByteArray).toList = t.toList := fun h => hf (n4.1 h)
        have g3 : ¬ (⟨#[98, 111, 100, 121]⟩ : ByteArray) = t := fun h => hf (k4.1 h)
        have g4 : (([98, 111, 100, 121] : List UInt8) == t.toList) = false := beq_eq_false_iff_ne.2 fun h => hf (n4.1 ((ba_toList [98, 111, 100, 121]).trans h))
        go_wp2_with fail
        go_region_held3 (fun w' => w'.cell? ⟨w.heap.size, 4, none⟩ = some (.string ⟨#[98, 111, 100, 121]⟩))
          (first | assumption | go_keep)
          (first
            | (go_simp; go_at_call 51; refine (HSM.out _).mono ?_; rintro e v1 ⟨rfl, hb⟩; (
                have HV1 := Lib.hid (show Below wr.heap.size wr v1 from (show Below wr.heap.size wr wr.drew from (Below.refl _ _).drew).trans (hb.mono (Nat.le_refl _)))
                have p0 : v1.cell? ⟨w.heap.size, 4, none⟩ = some (.string ⟨#[98, 111, 100, 121]⟩) := (HV1.out.cell (p := ⟨w.heap.size, 4, none⟩) hzr).trans d1
                clear hb))
            | fail)
        all_goals
          have HB2 := Lib.hid (HR.out.trans (HV1.out.mono HR.out.size))
          go_wp2
          go_roundw
          all_goals first
            | exact ⟨⟨5, by omega, by omega, by omega, rfl, HB2⟩, by decide⟩
            | rfl
            | exact ⟨5, by omega, by omega, by omega, rfl, HB2⟩
            | (simp [intOf] <;> omega)
    · have d1 : wr.cell? ⟨w.heap.size, 5, none⟩ = some (.string ⟨#[102, 105, 108, 101]⟩) := (HR.out.cell (p := ⟨w.heap.size, 5, none⟩) hz).trans c5
      have hzr : w.heap.size < wr.heap.size := Nat.lt_of_lt_of_le hz HR.out.size
      by_cases hf : F = 5
      · have g1 : decide ((⟨#[102, 105, 108, 101]⟩ : ByteArray) = t) = true := decide_eq_true (k5.2 hf)
        have g2 : (⟨#[102, 105, 108, 101]⟩ : ByteArray).toList = t.toList := n5.2 hf
        have g3 : (⟨#[102, 105, 108, 101]⟩ : ByteArray) = t := k5.2 hf
        go_wp2_with fail
        go_region_held3 (fun w' => w'.cell? ⟨w.heap.size, 5, none⟩ = some (.string ⟨#[102, 105, 108, 101]⟩))
          (first | assumption | go_keep)
          (first
            | (go_simp; go_at_call 51; refine (HSM.out _).mono ?_; rintro e v1 ⟨rfl, hb⟩; (
                have HV1 := Lib.hid (show Below wr.heap.size wr v1 from (show Below wr.heap.size wr wr.drew from (Below.refl _ _).drew).trans (hb.mono (Nat.le_refl _)))
                have p0 : v1.cell? ⟨w.heap.size, 5, none⟩ = some (.string ⟨#[102, 105, 108, 101]⟩) := (HV1.out.cell (p := ⟨w.heap.size, 5, none⟩) hzr).trans d1
                clear hb))
            | fail)
        all_goals
          have HB2 := Lib.hid (HR.out.trans (HV1.out.mono HR.out.size))
          go_wp2
          go_ret
          exact ⟨by rw [hf]; rfl, HB0.out.trans (HB2.out.mono (Nat.le_of_lt hz))⟩
      · have g1 : decide ((⟨#[102, 105, 108, 101]⟩ : ByteArray) = t) = false := decide_eq_false fun h => hf (k5.1 h)
        have g2 : ¬ (⟨#[102, 105, 108, 101]⟩ : ByteArray).toList = t.toList := fun h => hf (n5.1 h)
        have g3 : ¬ (⟨#[102, 105, 108, 101]⟩ : ByteArray) = t := fun h => hf (k5.1 h)
        have g4 : (([102, 105, 108, 101] : List UInt8) == t.toList) = false := beq_eq_false_iff_ne.2 fun h => hf (n5.1 ((ba_toList [102, 105, 108, 101]).trans h))
        go_wp2_with fail
        go_region_held3 (fun w' => w'.cell? ⟨w.heap.size, 5, none⟩ = some (.string ⟨#[102, 105, 108, 101]⟩))
          (first | assumption | go_keep)
          (first
            | (go_simp; go_at_call 51; refine (HSM.out _).mono ?_; rintro e v1 ⟨rfl, hb⟩; (
                have HV1 := Lib.hid (show Below wr.heap.size wr v1 from (show Below wr.heap.size wr wr.drew from (Below.refl _ _).drew).trans (hb.mono (Nat.le_refl _)))
                have p0 : v1.cell? ⟨w.heap.size, 5, none⟩ = some (.string ⟨#[102, 105, 108, 101]⟩) := (HV1.out.cell (p := ⟨w.heap.size, 5, none⟩) hzr).trans d1
                clear hb))
            | fail)
        all_goals
          have HB2 := Lib.hid (HR.out.trans (HV1.out.mono HR.out.size))
          go_wp2
          go_roundw
          all_goals first
            | exact ⟨⟨6, by omega, by omega, by omega, rfl, HB2⟩, by decide⟩
            | rfl
            | exact ⟨6, by omega, by omega, by omega, rfl, HB2⟩
            | (simp [intOf] <;> omega)
    · have hF0 : F = 0 := by omega
      go_wp2
      go_ret
      exact ⟨by rw [hF0]; rfl, HB0.out.trans (HR.out.mono (Nat.le_of_lt hz))⟩
end Go.Proofs.YtomcdhmcjndioaaGreatDoor
end
section
namespace Go.Proofs.YtomcdhmcjndioaaGreatDoor
open Go.RowKit
set_option linter.unusedVariables false

structure QTabs (w : World) : Prop where
  err : ErrVar w
  max : ∃ m, w.cell? ⟨2, 0, none⟩ = some (.int .i64 m)
  fs : fSpans w w.heap.size
  ks : kSpans w w.heap.size
  fld : ∀ j, j < 6 → w.cell? ⟨0, j, none⟩ = some (.string (ba (fieldsQ.getD j [])))
  lt : 2 < w.heap.size ∧ 6 < w.heap.size ∧ 0 < w.heap.size
theorem QTabs.below {w w' : World} (h : QTabs w) (hb : Below w.heap.size w w') : QTabs w' := by
  have hs := hb.size
  obtain ⟨l1, l2, l3⟩ := h.lt
  refine ⟨h.err.keep hb l2, ?_, (h.fs.below hb).more hs, (h.ks.below hb).more hs, fun j hj => (hb.cell (p := ⟨0, j, none⟩) l3).trans (h.fld j hj), by omega, by omega, by omega⟩
  obtain ⟨m, hm⟩ := h.max
  exact ⟨m, (hb.cell (p := ⟨2, 0, none⟩) l1).trans hm⟩
/-- The index of the first byte c, or -1. -/
def findV (c : UInt8) (l : List UInt8) : Int := match cutP c l with
  | some q => (q.1.length : Int)
  | none => -1
theorem index_find (c : UInt8) : ∀ l : List UInt8, Lib.index l [c] = findV c l
  | [] => rfl
  | x :: r => by
    have ih := index_find c r
    unfold Lib.index findV cutP
    by_cases h : x = c
    · subst h
      simp [List.isPrefixOf]
    · have h2 : List.isPrefixOf [c] (x :: r) = false := by
        simp [List.isPrefixOf]
        exact fun e => h e.symm
      rw [h2, if_neg h, ih]
      unfold findV
      cases hc : cutP c r with
      | none => rfl
      | some q =>
        show (if (false = true) then (0 : Int) else if ((q.1.length : Int) == -1) = true then -1 else (q.1.length : Int) + 1) = ((x :: q.1).length : Int)
        have : ((q.1.length : Int) == -1) = false := by simp
        rw [this]
        simp
def cutV (c : UInt8) (l : List UInt8) : List UInt8 × List UInt8 × Bool := match cutP c l with
  | some q => (q.1, q.2, true)
  | none => (l, [], false)
theorem cut_eq (c : UInt8) (l : List UInt8) : Lib.cut l [c] = cutV c l := by
  unfold Lib.cut cutV
  rw [index_find]
  unfold findV
  cases h : cutP c l with
  | none => rfl
  | some q =>
    obtain ⟨a, b⟩ := q
    have h1 := (cutP_some h).1
    show (if 0 ≤ (a.length : Int) then (l.take (a.length : Int).toNat, l.drop ((a.length : Int).toNat + 1), true) else (l, [], false)) = (a, b, true)
    rw [if_pos (by omega), h1]
    simp
def CutPost (w : World) (c : UInt8) (l : List UInt8) (e : Ending) (w' : World) : Prop := e = .returned (.tuple #[.string (ba (cutV c l).1), .string (ba (cutV c l).2.1), .bool (cutV c l).2.2]) ∧ ∃ n, w' = w.drewN n
theorem cut_any (c : UInt8) (l : List UInt8) (w : World) (hl : l.length ≤ 1000000000) (hT : QTabs w) :
    Calls Tryz.prog 42 #[.string (ba l), .string ⟨#[c]⟩] w (CutPost w c l) := by
  obtain ⟨m, hm⟩ := hT.max
  refine (Tryz.strings_Cut (ba l) ⟨#[c]⟩ m w (by rw [ba_size]; omega) hm).mono ?_
  rintro e w' ⟨rfl, hw⟩
  refine ⟨?_, hw⟩
  have e1 : Lib.cut (ba l).data.toList (⟨#[c]⟩ : ByteArray).data.toList = cutV c l := by rw [ba_list]; exact cut_eq c l
  rw [e1]
  rfl
def trimC (c : UInt8) (l : List UInt8) : List UInt8 := if l.getLast? = some c then l.dropLast else l
theorem suffix_one (c : UInt8) (l : List UInt8) : Lib.hasSuffix l [c] = decide (l.getLast? = some c) := by
  unfold Lib.hasSuffix
  rw [Bool.eq_iff_iff, decide_eq_true_iff, List.isSuffixOf_iff_suffix]
  constructor
  · rintro ⟨t, rfl⟩
    simp
  · intro h
    obtain ⟨t, ht⟩ := List.getLast?_eq_some_iff.1 h
    exact ⟨t, ht.symm⟩
theorem trimC_eq (c : UInt8) (l : List UInt8) : Lib.trimSuffix l [c] = trimC c l := by
  unfold Lib.trimSuffix trimC
  rw [suffix_one]
  by_cases h : l.getLast? = some c
  · rw [decide_eq_true h, if_pos rfl, if_pos h, List.dropLast_eq_take]
    rfl
  · rw [decide_eq_false h, if_neg h]
    rfl
theorem cutsuf_any (c : UInt8) (l : List UInt8) (w : World) (hl : l.length ≤ 1000000000) :
    Calls Tryz.prog 27 #[.string (ba l), .string ⟨#[c]⟩] w fun e w' => e = .returned (.tuple #[.string (ba (trimC c l)), .bool (decide (l.getLast? = some c))]) ∧ w' = w := by
  refine (Tryz.strings_CutSuffix (ba l) ⟨#[c]⟩ w (by rw [ba_size]; omega)).mono ?_
  rintro e w' ⟨rfl, rfl⟩
  refine ⟨?_, rfl⟩
  have e1 : Lib.trimSuffix (ba l).data.toList (⟨#[c]⟩ : ByteArray).data.toList = trimC c l := by rw [ba_list]; exact trimC_eq c l
  have e2 : Lib.hasSuffix (ba l).data.toList (⟨#[c]⟩ : ByteArray).data.toList = decide (l.getLast? = some c) := by rw [ba_list]; exact suffix_one c l
  rw [e1, e2]
  rfl
theorem num_parse (l : List UInt8) (lo hi : Int) (w : World) (hl : l.length ≤ 1000000000) (hlo : -9223372036854775808 ≤ lo) (hhi : hi ≤ 9223372036854775807) (hT : QTabs w) :
    Calls Tryz.prog 109 #[.string (ba l), .int .i64 lo, .int .i64 hi] w (ParsePost w (decP l lo hi)) := num_parse_any l lo hi w hl hlo hhi hT.err hT.lt.2.1
/-- The bytes that end a bare token, as the program lists them. -/
def edgesQ : List UInt8 := [32, 9, 13, 10, 40, 41, 34]
theorem edges_in (c : UInt8) : edgesQ.contains c = edgeQ c := by
  have h : ∀ d : UInt8, (c == d) = decide (c = d) := fun d => rfl
  unfold edgesQ edgeQ blankQ
  simp only [List.contains_cons, List.contains_nil, Bool.or_false, Bool.or_assoc]
theorem edges_idx (l : List UInt8) : (Lib.indexAny l edgesQ = -1 ∧ bareN l = l.length) ∨ (Lib.indexAny l edgesQ = (bareN l : Int) ∧ bareN l < l.length) := by
  induction l with
  | nil => exact .inl ⟨rfl, rfl⟩
  | cons a r ih =>
    unfold Lib.indexAny
    rw [edges_in]
    cases he : edgeQ a with
    | true =>
      refine .inr ?_
      have : bareN (a :: r) = 0 := by unfold bareN; rw [List.takeWhile_cons_of_neg (by rw [he]; decide)]; rfl
      rw [this]
      exact ⟨rfl, by simp⟩
    | false =>
      have hb : bareN (a :: r) = bareN r + 1 := by unfold bareN; rw [List.takeWhile_cons_of_pos (by rw [he]; rfl)]; rfl
      rw [hb, if_neg (by decide)]
      rcases ih with ⟨h1, h2⟩ | ⟨h1, h2⟩
      · rw [h1, h2]
        exact .inl ⟨rfl, rfl⟩
      · rw [h1]
        refine .inr ⟨?_, by simpa using h2⟩
        have : ((bareN r : Int) == -1) = false := by simp
        rw [this]
        simp
theorem edges_any (l : List UInt8) (hl : l.length ≤ 1000000000) (w : World) :
    Calls Tryz.prog 26 #[.string (ba l), .string ⟨#[32, 9, 13, 10, 40, 41, 34]⟩] w fun e w' => e = .returned (.int .i64 (Lib.indexAny l edgesQ)) ∧ Below w.heap.size w w' :=
  indexAny_any l edgesQ ⟨by decide, by decide, by decide⟩ hl w
end Go.Proofs.YtomcdhmcjndioaaGreatDoor
end
