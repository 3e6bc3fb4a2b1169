/- Layer 12: the contract of open. Layer 12: the contracts of get and value. Layer 12: the contract of where. -/
import Derived.Lib.LastIndexByte
import Derived.Handy
import Derived.Test.YthidbmeaccpjdaaGreatDoorM14
import Derived.Test.YthidbmeaccpjdaaGreatDoorM06
namespace Go.Proofs.YthidbmeaccpjdaaGreatDoor
open Go.RowKit
set_option linter.unusedVariables false
set_option maxHeartbeats 4000000
theorem openP_skip (c : UInt8) (r : List UInt8) (h : c ≠ 37 ∨ r.length < 2 ∨ unhexP (r.take 2) = none) : openP (c :: r) = c :: openP r := by
 match r with
 | [] => rfl
 | [x] => rfl
 | x :: y :: t =>
  have e : unhexP ((x :: y :: t).take 2) = match hexV x, hexV y with | some a, some b => some [UInt8.ofNat (a * 16 + b)] | _, _ => none := by
   show unhexP [x, y] = _
   unfold unhexP
   cases hexV x <;> cases hexV y <;> rfl
  rw [e] at h
  conv => lhs; unfold openP
  by_cases hc : c = 37
  ·rw [if_pos hc]
   have h2 := h.resolve_left (fun h => h hc)
   have h3 := h2.resolve_left (by simp)
   cases hx : hexV x with
   | none => rfl
   | some a =>
    cases hy : hexV y with
    | none => rfl
    | some b => rw [hx, hy] at h3; cases h3
  ·rw [if_neg hc]
theorem openP_take (r z : List UInt8) (h2 : 2 ≤ r.length) (h : unhexP (r.take 2) = some z) : openP (37 :: r) = z ++ openP (r.drop 2) := by
 match r, h2 with
 | x :: y :: t, _ =>
  have e : unhexP ((x :: y :: t).take 2) = match hexV x, hexV y with | some a, some b => some [UInt8.ofNat (a * 16 + b)] | _, _ => none := by
   show unhexP [x, y] = _
   unfold unhexP
   cases hexV x <;> cases hexV y <;> rfl
  rw [e] at h
  conv => lhs; unfold openP
  rw [if_pos rfl]
  cases hx : hexV x with
  | none => rw [hx] at h; cases h
  | some a =>
   cases hy : hexV y with
   | none => rw [hx, hy] at h; cases h
   | some b =>
    rw [hx, hy] at h
    injection h with h
    subst h
    rfl
structure OpRel (w : World) (l : List UInt8) (k : Nat) (wr : World) : Prop where
 ex : ∃ acc, Bld wr w.heap.size w.heap.size acc ∧ acc ++ openP (l.drop k) = openP l ∧ acc.length ≤ k
 bel : Below w.heap.size w wr
set_option maxRecDepth 100000 in
theorem open_any (l : List UInt8) (w : World) (hl : l.length ≤ 1000000000) :
  Calls Tryz.prog 250 #[.string (ba l)] w (StrB w (openP l)) := by
 have HB0 := Lib.hid (bld_new w)
 have HEX := Lib.hid (fun i j => ba_cut l i j)
 obtain ⟨n, hn⟩ : ∃ n, l.length = n := ⟨_, rfl⟩
 have HL := Lib.hid hn
 obtain ⟨s, hs⟩ : ∃ s, ba l = s := ⟨_, rfl⟩
 have HS := Lib.hid hs
 have HZ := Lib.hid (show s.size = n by rw [← hs, ba_size, hn])
 have hsz : (s.size : Int) = n := by rw [HZ.out]
 rw [hs]
 rw [hn] at hl
 clear hs hn
 rw [HS.out] at HEX
 go_enter Tryz.func250, Tryz.ntmps250
 go_wp2
 go_loopw [4] (fun i wr => ∃ k : Nat, k ≤ n ∧ i = .int .i64 (k : Int) ∧ Hid (OpRel w l k wr)) (fun i _ => n - (intOf i).toNat)
 case atStart => exact ⟨0, Nat.zero_le _, rfl, Lib.hid ⟨⟨[], HB0.out, rfl, Nat.le_refl _⟩, (Below.refl _ _).alloc (Nat.le_refl _) _⟩⟩
 case round =>
  obtain ⟨k, hk, rfl, HR⟩ := hrel
  obtain ⟨acc, hbld, heq, hal⟩ := HR.out.ex
  have hsz2 := HR.out.bel.size
  have HBL := Lib.hid hbld
  have HEQ0 := Lib.hid heq
  have HAL := Lib.hid hal
  have HBE := Lib.hid HR.out.bel
  have hacl : acc.length ≤ 1000000000 := by omega
  clear HR hbld heq hal
  by_cases hlt : k < n
  ·have hk2 : (k : Int) < (n : Int) := by omega
   have hk0 : (0 : Int) ≤ (k : Int) := by omega
   have hks : k < s.size := by rw [HZ.out]; omega
   have hkl : k < l.length := by rw [HL.out]; omega
   have hget : s[k] = l[k] := by
    have h := HS.out
    subst h
    rfl
   have heq := HEQ0.out
   rw [List.drop_eq_getElem_cons hkl] at heq
   have HEQ := Lib.hid heq
   have HW := Lib.hid (fun W (hb : Bld W w.heap.size w.heap.size acc) (hz : w.heap.size ≤ W.heap.size) => write_byte w.heap.size w.heap.size acc l[k] W hb (by omega) hz)
   clear heq
   obtain ⟨c, hc⟩ : ∃ c, l[k] = c := ⟨_, rfl⟩
   rw [hc] at hget HEQ HW
   obtain ⟨x, hx⟩ : ∃ x : Int, (c.toNat : Int) = x := ⟨_, rfl⟩
   have hgi : ((s[k]).toNat : Int) = x := by rw [hget]; exact hx
   have HX := Lib.hid hx
   have hx0 : 0 ≤ x := by omega
   have hx1 : x ≤ 255 := by have := c.toNat_lt; omega
   clear hc hkl hget hx
   rw [HX.out] at HW
   have HRL := Lib.hid (show (l.drop (k + 1)).length = n - (k + 1) by rw [List.length_drop, HL.out])
   by_cases e1 : x = 37 ∧ k + 2 < n
   ·have g1 : (x == 37) = true := by simpa using e1.1
    have hc2 : (k : Int) + 2 < (n : Int) := by omega
    have hc3 : (k : Int) + 3 ≤ (n : Int) := by omega
    have HC := Lib.hid (show c = 37 from u8_int_eq.1 (by rw [HX.out]; exact e1.1))
    have hext := HEX.out (k + 1) (k + 3)
    have e2 : (l.take (k + 3)).drop (k + 1) = (l.drop (k + 1)).take 2 := by rw [List.drop_take]; congr 1; omega
    rw [e2] at hext
    have HUL := Lib.hid (show ((l.drop (k + 1)).take 2).length = 2 by rw [List.length_take, HRL.out]; omega)
    have HUN := Lib.hid (fun z => openP_take (l.drop (k + 1)) z (by rw [HRL.out]; omega))
    have HSK := Lib.hid (fun h => openP_skip c (l.drop (k + 1)) (.inr (.inr h)))
    obtain ⟨t, ht⟩ : ∃ t, (l.drop (k + 1)).take 2 = t := ⟨_, rfl⟩
    rw [ht] at hext HUL HUN HSK
    have HUH := Lib.hid (unhex_any t wr (by rw [HUL.out]; omega))
    have HZL := Lib.hid (unhex_len t)
    unfold UnhexPost at HUH
    have HEX2 := Lib.hid hext
    clear e1 e2 ht hext
    cases hu : unhexP t with
    | none =>
     rw [hu] at HUH HSK
     have HE := Lib.hid (show acc ++ c :: openP (l.drop (k + 1)) = openP l by
      have := HEQ.out
      rw [HSK.out rfl] at this
      exact this)
     clear hu
     go_wp2_with fail
     rw [HEX2.out]
     refine HUH.out.mono ?_
     rintro e w2 ⟨rfl, hb2⟩
     have HB2 := Lib.hid hb2
     have hsz3 := hb2.size
     clear hb2
     go_wp2_with fail
     refine (HW.out w2 (HBL.out.below HB2.out) (by omega)).mono ?_
     rintro e w3 ⟨rfl, hW⟩
     have HWR := Lib.hid hW
     clear hW
     go_wp2
     go_roundw
     case rel =>
      refine ⟨k + 1, by omega, by go_num, Lib.hid ⟨⟨_, HWR.out.bld, ?_, ?_⟩, (HBE.out.trans (HB2.out.mono hsz2)).trans HWR.out.bel⟩⟩
      ·rw [List.append_assoc]; exact HE.out
      ·rw [List.length_append]; have := HAL.out; show acc.length + 1 ≤ k + 1; omega
     case measure => simp [intOf] <;> omega
    | some z =>
     rw [hu] at HUH
     have HE := Lib.hid (show acc ++ (z ++ openP (l.drop (k + 1 + 2))) = openP l by
      have := HEQ.out
      rw [HC.out, HUN.out z hu, List.drop_drop] at this
      exact this)
     have HZ1 := Lib.hid (show z.length = 1 by have := HZL.out z hu; have := HUL.out; omega)
     clear hu
     go_wp2_with fail
     rw [HEX2.out]
     refine HUH.out.mono ?_
     rintro e w2 ⟨rfl, hb2⟩
     have HB2 := Lib.hid hb2
     have hsz3 := hb2.size
     clear hb2
     go_wp2_with fail
     refine (write_string w.heap.size w.heap.size acc z w2 (HBL.out.below HB2.out) (by rw [HZ1.out]; omega) (by omega)).mono ?_
     rintro e w3 ⟨rfl, hW⟩
     have HWR := Lib.hid hW
     clear hW
     go_wp2
     go_roundw
     case rel =>
      refine ⟨k + 3, by omega, by go_num, Lib.hid ⟨⟨_, HWR.out.bld, ?_, ?_⟩, (HBE.out.trans (HB2.out.mono hsz2)).trans HWR.out.bel⟩⟩
      ·rw [List.append_assoc]; exact HE.out
      ·rw [List.length_append, HZ1.out]; have := HAL.out; omega
     case measure => simp [intOf] <;> omega
   ·have HE := Lib.hid (show acc ++ c :: openP (l.drop (k + 1)) = openP l by
     have := HEQ.out
     rw [openP_skip c _ (by
      by_cases h : c = 37
      ·refine .inr (.inl ?_)
       rw [HRL.out]
       have : ¬ k + 2 < n := fun h2 => e1 ⟨by rw [← HX.out, h]; rfl, h2⟩
       omega
      ·exact .inl h)] at this
     exact this)
    by_cases e2 : x = 37
    ·have g1 : (x == 37) = true := by simpa using e2
     have hc2 : ¬ (k : Int) + 2 < (n : Int) := fun h => e1 ⟨e2, by omega⟩
     clear e1 e2
     go_wp2_with fail
     refine (HW.out wr HBL.out hsz2).mono ?_
     rintro e w3 ⟨rfl, hW⟩
     have HWR := Lib.hid hW
     clear hW
     go_wp2
     go_roundw
     case rel =>
      refine ⟨k + 1, by omega, by go_num, Lib.hid ⟨⟨_, HWR.out.bld, ?_, ?_⟩, HBE.out.trans HWR.out.bel⟩⟩
      ·rw [List.append_assoc]; exact HE.out
      ·rw [List.length_append]; have := HAL.out; show acc.length + 1 ≤ k + 1; omega
     case measure => simp [intOf] <;> omega
    ·have g1 : (x == 37) = false := by simpa using e2
     clear e1 e2
     go_wp2_with fail
     refine (HW.out wr HBL.out hsz2).mono ?_
     rintro e w3 ⟨rfl, hW⟩
     have HWR := Lib.hid hW
     clear hW
     go_wp2
     go_roundw
     case rel =>
      refine ⟨k + 1, by omega, by go_num, Lib.hid ⟨⟨_, HWR.out.bld, ?_, ?_⟩, HBE.out.trans HWR.out.bel⟩⟩
      ·rw [List.append_assoc]; exact HE.out
      ·rw [List.length_append]; have := HAL.out; show acc.length + 1 ≤ k + 1; omega
     case measure => simp [intOf] <;> omega
  ·obtain rfl : k = n := by omega
   have HACC := Lib.hid (show acc = openP l by
    have := HEQ0.out
    rw [List.drop_of_length_le (by rw [HL.out]; exact Nat.le_refl _)] at this
    have h0 : openP [] = [] := by unfold openP; rfl
    rw [h0, List.append_nil] at this
    exact this)
   go_wp2_with fail
   refine (bld_string _ _ acc wr HBL.out hsz2).mono ?_
   rintro e w2 ⟨rfl, hW⟩
   have HW := Lib.hid hW
   clear hW
   go_wp2
   go_ret
   exact str_fin (by rw [HACC.out]) (HBE.out.trans HW.out.bel)
def parF (ones : List One1) (x : Spot3) : Option Value := (ones.find? fun o => decide (o.at_ = x)).map fun o => .string (ba o.value)
def firF (ones : List One1) (x : Spot3) : Option Value := if x.wide = false ∧ 0 ≤ x.section_ then (firstP ones x.name x.section_).map fun o => .bool o.at_.wide else none
structure PMaps (w : World) (ones : List One1) (bp bf : Nat) : Prop where
 par : ∃ c, MapL spotK w bp (parF ones) c
 fir : ∃ c, MapL spotK w bf (firF ones) c
theorem PMaps.below {w w' : World} {ones : List One1} {bp bf : Nat} (h : PMaps w ones bp bf) (hb : Below w.heap.size w w') : PMaps w' ones bp bf := by
 obtain ⟨⟨c, h1⟩, d, h2⟩ := h
 exact ⟨⟨c, h1.below hb⟩, d, h2.below hb⟩
theorem zero_str (w : World) : (zeroValue 9).run Tryz.prog w = .ok (.string ⟨#[]⟩) w := by kernel_rfl
theorem zero_bool (w : World) : (zeroValue 4).run Tryz.prog w = .ok (.bool false) w := by kernel_rfl
theorem fits_spot {name : List UInt8} {s : Int} {b : Bool} (hn : name.length ≤ 1000000000) (h0 : -1 ≤ s) (h1 : s ≤ 63) : spotK.fits ⟨name, s, b⟩ := by
 refine ⟨wf64 ⟨?_, ?_⟩, ?_⟩
 ·show -9223372036854775808 ≤ s; omega
 ·show s ≤ 9223372036854775807; omega
 ·show name.length ≤ maxLen; unfold maxLen; omega
theorem par_first {ones : List One1} {name : List UInt8} {s : Int} {x : One1} (h : firstP ones name s = some x) : parF ones ⟨name, s, x.at_.wide⟩ = some (.string (ba x.value)) := by
 unfold firstP at h
 unfold parF
 have key : ones.find? (fun o => decide (o.at_ = ⟨name, s, x.at_.wide⟩)) = some x := by
  induction ones with
  | nil => cases h
  | cons a r ih =>
   rw [List.find?_cons] at h ⊢
   by_cases h1 : a.at_.name = name ∧ a.at_.section_ = s
   ·have e : (decide (a.at_.name = name) && decide (a.at_.section_ = s)) = true := by simp [h1]
    rw [e] at h
    have hx : a = x := Option.some.inj h
    subst hx
    have e2 : decide (a.at_ = ⟨name, s, a.at_.wide⟩) = true := by
     rw [decide_eq_true_iff]
     cases ha : a.at_ with
     | mk n2 s2 w2 => rw [ha] at h1; rw [← h1.1, ← h1.2]
    rw [e2]
   ·have e : (decide (a.at_.name = name) && decide (a.at_.section_ = s)) = false := by
     rw [Bool.eq_false_iff]
     intro h2
     rw [Bool.and_eq_true, decide_eq_true_iff, decide_eq_true_iff] at h2
     exact h1 h2
    rw [e] at h
    have e2 : decide (a.at_ = ⟨name, s, x.at_.wide⟩) = false := by
     rw [decide_eq_false_iff_not]
     intro h2
     rw [h2] at h1
     exact h1 ⟨rfl, rfl⟩
    rw [e2]
    exact ih h
 rw [key]
 rfl
def GetPost (w : World) (o : Option One1) (e : Ending) (w' : World) : Prop := e = .returned (.tuple #[.string (ba ((o.map (·.value)).getD [])), .bool ((o.map (·.at_.wide)).getD false), .bool o.isSome]) ∧ w' = w
set_option maxRecDepth 100000 in
theorem get_any (ones : List One1) (name : List UInt8) (s : Int) (bp bf : Nat) (w : World) (hP : PMaps w ones bp bf) (hn : name.length ≤ 1000000000) (h0 : 0 ≤ s) (h1 : s ≤ 63) :
  Calls Tryz.prog 247 #[.map (some bp), .string (ba name), .int .i64 s, .map (some bf)] w (GetPost w (firstP ones name s)) := by
 obtain ⟨⟨c, hp⟩, d, hf⟩ := hP
 have hl1 := hf.look_ok Tryz.underlying194 (zero_bool w) (x := ⟨name, s, false⟩) (fits_spot hn (by omega) h1)
 have hl2 : ∀ b, _ := fun b => hp.look Tryz.underlying193 (zero_str w) (x := ⟨name, s, b⟩) (fits_spot hn (by omega) h1)
 have HPF := Lib.hid (fun x => par_first (ones := ones) (name := name) (s := s) (x := x))
 unfold firF at hl1
 simp only [h0, and_self, if_true] at hl1
 unfold spotK at hl1 hl2
 simp only [spotV] at hl1 hl2
 obtain ⟨o, ho⟩ : ∃ o, firstP ones name s = o := ⟨_, rfl⟩
 rw [ho] at hl1
 simp only [ho] at HPF
 rw [ho]
 clear ho hp hf
 cases o with
 | none =>
  clear hl2
  go_enter Tryz.func247, Tryz.ntmps247
  go_wp2
  go_ret3
  exact ⟨rfl, rfl⟩
 | some x =>
  have hl3 := hl2 x.at_.wide
  rw [HPF.out x rfl] at hl3
  have HX := Lib.hid hl3
  clear hl2
  go_enter Tryz.func247, Tryz.ntmps247
  go_wp2
  go_ret3
  exact ⟨rfl, rfl⟩
def lastV (c : UInt8) (l : List UInt8) : Int := match lastP c l with
 | some q => (q.1.length : Int)
 | none => -1
theorem lastP_some {c : UInt8} {l a b : List UInt8} (h : lastP c l = some (a, b)) : l = a ++ c :: b ∧ c ∉ b := by
 unfold lastP at h
 obtain ⟨q, hq, he⟩ := Option.map_eq_some_iff.1 h
 obtain ⟨x, y⟩ := q
 injection he with e1 e2
 subst e1; subst e2
 have h1 := cutP_some hq
 have h2 := congrArg List.reverse h1.1
 rw [List.reverse_reverse] at h2
 rw [h2]
 exact ⟨by simp, by simpa using h1.2⟩
theorem lastP_none {c : UInt8} {l : List UInt8} (h : lastP c l = none) : c ∉ l := by
 unfold lastP at h
 have h1 := cutP_none.1 (Option.map_eq_none_iff.1 h)
 simpa using h1
theorem lastIdx_eq (c : UInt8) (l : List UInt8) : Lib.lastIndexByte (ba l) (c.toNat : Int) = lastV c l := by
 have hs : (ba l).size = l.length := ba_size l
 have hg : ∀ j, j < l.length → (ba l).data[j]! = l.getD j 0 := fun j hj => by
  show (l.toArray)[j]! = _
  simp [hj]
 unfold lastV
 rcases Lib.lastIndexByte_spec (ba l) (c.toNat : Int) with ⟨h1, h2⟩ | ⟨i, hi, h1, h2, h3⟩
 ·rw [h1]
  cases h : lastP c l with
  | none => rfl
  | some q =>
   obtain ⟨a, b⟩ := q
   have h4 := (lastP_some h).1
   have hlt : a.length < l.length := by rw [h4]; simp
   have h5 := h2 a.length (by rw [hs]; exact hlt)
   rw [hg _ hlt, h4] at h5
   exact absurd (by simp) h5
 ·rw [h1]
  rw [hs] at hi
  rw [hg i hi] at h2
  have hci : l.getD i 0 = c := UInt8.toNat_inj.1 (by omega)
  cases h : lastP c l with
  | none =>
   have h4 := lastP_none h
   refine absurd ?_ h4
   rw [← hci, List.getD_eq_getElem?_getD, List.getElem?_eq_getElem hi]
   exact List.getElem_mem hi
  | some q =>
   obtain ⟨a, b⟩ := q
   have h4 := lastP_some h
   show (i : Int) = (a.length : Int)
   have hlt : a.length < l.length := by rw [h4.1]; simp
   rcases Nat.lt_trichotomy i a.length with h5 | h5 | h5
   ·have h6 := h3 a.length h5 (by rw [hs]; exact hlt)
    rw [hg _ hlt] at h6
    refine absurd ?_ h6
    rw [h4.1]
    simp
   ·rw [h5]
   ·exfalso
    have e : l.getD i 0 = b.getD (i - (a.length + 1)) 0 := by
     rw [h4.1, List.getD_eq_getElem?_getD, List.getElem?_append_right (by omega), show i - a.length = (i - (a.length + 1)) + 1 by omega]
     rfl
    rw [e] at hci
    have hib : i - (a.length + 1) < b.length := by
     have : l.length = a.length + (b.length + 1) := by rw [h4.1]; simp
     omega
    apply h4.2
    rw [← hci, List.getD_eq_getElem?_getD, List.getElem?_eq_getElem hib]
    exact List.getElem_mem hib
theorem suffix_star (l : List UInt8) : Lib.hasSuffix l [42] = decide (l.getLast? = some 42) := by
 unfold Lib.hasSuffix
 rw [Bool.eq_iff_iff, decide_eq_true_iff, List.isSuffixOf_iff_suffix]
 constructor
 ·rintro ⟨t, rfl⟩
  simp
 ·intro h
  obtain ⟨t, ht⟩ := List.getLast?_eq_some_iff.1 h
  exact ⟨t, ht.symm⟩
def WherePost (w : World) (n : List UInt8) (e : Ending) (w' : World) : Prop := e = .returned (spotV (whereP n)) ∧ Below w.heap.size w w'
theorem where_fin {w w' : World} {n m : List UInt8} {v : Int} {b : Bool} (h : whereP n = ⟨m, v, b⟩) (hb : Below w.heap.size w w') : WherePost w n (.returned (.agg #[.string (ba m), .int .i64 v, .bool b])) w' := by
 unfold WherePost
 rw [h]
 exact ⟨rfl, hb⟩
theorem whereP_none (n : List UInt8) (wd : Bool) (m : List UInt8) (h1 : (decide (1 < n.length) && decide (n.getLast? = some 42)) = wd) (h2 : (if wd = true then n.dropLast else n) = m) (h3 : lastP 42 m = none) : whereP n = ⟨m, -1, wd⟩ := by
 unfold whereP
 simp only [h1, h2, h3]
theorem whereP_bad (n : List UInt8) (wd : Bool) (m : List UInt8) (h1 : (decide (1 < n.length) && decide (n.getLast? = some 42)) = wd) (h2 : (if wd = true then n.dropLast else n) = m) (a b : List UInt8) (h3 : lastP 42 m = some (a, b)) (h4 : decP b 0 63 = none) : whereP n = ⟨m, -1, wd⟩ := by
 unfold whereP
 simp only [h1, h2, h3, h4]
theorem whereP_num (n : List UInt8) (wd : Bool) (m : List UInt8) (h1 : (decide (1 < n.length) && decide (n.getLast? = some 42)) = wd) (h2 : (if wd = true then n.dropLast else n) = m) (a b : List UInt8) (h3 : lastP 42 m = some (a, b)) (v : Int) (h4 : decP b 0 63 = some v) : whereP n = ⟨a, v, wd⟩ := by
 unfold whereP
 simp only [h1, h2, h3, h4]
set_option maxRecDepth 100000 in
theorem where_any (n : List UInt8) (w : World) (hn : n.length ≤ 1000000000) (hT : Tabs w) :
  Calls Tryz.prog 200 #[.string (ba n)] w (WherePost w n) := by
 have HSUF := Lib.hid (fun W => Tryz.strings_HasSuffix (ba n) ⟨#[42]⟩ W (by rw [ba_size]; omega))
 have HSE := Lib.hid (suffix_star n)
 have HT := Lib.hid hT
 obtain ⟨wd, hwd⟩ : ∃ b, (decide (1 < n.length) && decide (n.getLast? = some 42)) = b := ⟨_, rfl⟩
 obtain ⟨m, hm⟩ : ∃ m, (if wd = true then n.dropLast else n) = m := ⟨_, rfl⟩
 have HN1 := Lib.hid (whereP_none n wd m hwd hm)
 have HN2 := Lib.hid (whereP_bad n wd m hwd hm)
 have HN3 := Lib.hid (whereP_num n wd m hwd hm)
 have hml : m.length ≤ 1000000000 := by rw [← hm]; split; rw [List.length_dropLast]; omega; exact hn
 have HML := Lib.hid hml
 have HLI := Lib.hid (fun W => Tryz.strings_LastIndexByte (ba m) 42 (by rw [ba_size]; omega) W)
 have HLV := Lib.hid (show Lib.lastIndexByte (ba m) 42 = lastV 42 m from lastIdx_eq 42 m)
 have HM := Lib.hid hm
 clear hT hml
 by_cases h1 : 1 < n.length
 ·have g1 : decide ((1 : Int) < ((ba n).size : Int)) = true := decide_eq_true (by rw [ba_size]; omega)
  have hs1 : (1 : Int) ≤ ((ba n).size : Int) := by rw [ba_size]; omega
  have hs2 : ((ba n).size : Int) ≤ 1000000000 := by rw [ba_size]; omega
  cases h2 : decide (n.getLast? = some 42) with
  | true =>
   have hwd2 : wd = true := by rw [← hwd, h2]; simp [h1]
   subst hwd2
   have hmd : (ba n).extract 0 ((ba n).size - 1) = ba m := by
    rw [← hm, ba_cut, ba_size, if_pos rfl, List.dropLast_eq_take]
    rfl
   have HMD := Lib.hid hmd
   rw [h2] at HSE
   clear hwd hm h1 h2 hmd
   go_enter Tryz.func200, Tryz.ntmps200
   go_wp2_with fail
   refine (HSUF.out _).mono ?_
   rintro e w' ⟨rfl, hw⟩
   have hw2 := hw.symm
   subst hw2
   clear hw
   rw [show Lib.hasSuffix (ba n).data.toList (⟨#[42]⟩ : ByteArray).data.toList = true from HSE.out]
   go_wp2_with fail
   rw [HMD.out]
   have HW0 := Lib.hid (show Below w.heap.size w ((w.alloc (.cells #[.string ⟨#[]⟩, .int .i64 0, .bool false] 198)).alloc (.cells #[.string (ba m), .int .i64 (-1), .bool true] 198)) from ((Below.refl _ _).alloc (Nat.le_refl _) _).alloc (by simp) _)
   go_wp2_with fail
   refine (HLI.out _).mono ?_
   rintro e w' ⟨rfl, hw⟩
   have hw2 := hw.symm
   subst hw2
   clear hw
   rw [HLV.out]
   cases hlp : lastP 42 m with
   | none =>
    have g5 : lastV 42 m = -1 := by unfold lastV; rw [hlp]
    rw [g5]
    have HF := Lib.hid (HN1.out hlp)
    clear hlp g5
    go_wp2
    go_returns
    exact where_fin HF.out (((Below.refl _ _).alloc (Nat.le_refl _) _).alloc (by simp) _)
   | some q =>
    obtain ⟨a, b⟩ := q
    have hab := (lastP_some hlp).1
    have g5 : lastV 42 m = (a.length : Int) := by unfold lastV; rw [hlp]
    have HN2B := Lib.hid (HN2.out a b hlp)
    have HN3B := Lib.hid (HN3.out a b hlp)
    rw [g5]
    have hsm : (ba m).size = a.length + (b.length + 1) := by rw [ba_size, hab]; simp
    have hex1 : (ba m).extract (a.length + 1) (ba m).size = ba b := by rw [ba_drop, hab]; simp
    have hex2 : (ba m).extract 0 a.length = ba a := by rw [ba_cut, hab]; simp
    have hbl : b.length ≤ 1000000000 := by have := HML.out; rw [← ba_size, hsm] at this; omega
    have hal : a.length ≤ 1000000000 := by have := HML.out; rw [← ba_size, hsm] at this; omega
    have HPA := Lib.hid (num_parse b 0 63 ((w.alloc (.cells #[.string ⟨#[]⟩, .int .i64 0, .bool false] 198)).alloc (.cells #[.string (ba m), .int .i64 (-1), .bool true] 198)) hbl (by omega) (by omega) (HT.out.below HW0.out))
    have HEX1 := Lib.hid hex1
    have HEX2 := Lib.hid hex2
    have hsm2 : (a.length : Int) + 1 ≤ ((ba m).size : Int) := by omega
    have hsm3 : (a.length : Int) ≤ ((ba m).size : Int) := by omega
    have ha0 : (0 : Int) ≤ (a.length : Int) := by omega
    have hge : decide ((0 : Int) ≤ (a.length : Int)) = true := decide_eq_true ha0
    clear hlp g5 hab hbl hsm hex1 hex2
    obtain ⟨A, hA⟩ : ∃ A, a.length = A := ⟨_, rfl⟩
    rw [hA] at hsm2 hsm3 ha0 hge HEX1 HEX2 hal
    rw [hA]
    clear hA
    go_wp2_with fail
    rw [HEX1.out]
    refine HPA.out.mono ?_
    rintro e w3 ⟨rfl, hb3⟩
    have hz3 := hb3.size
    have HBW := Lib.hid (HW0.out.trans (hb3.mono (by simp; omega)))
    have hbk : w3.heap[w.heap.size + 1]? = some (.cells #[.string (ba m), .int .i64 (-1), .bool true] 198 (0, 0)) := by
     have h1 := (MapKept.heap_alloc (w.alloc (.cells #[.string ⟨#[]⟩, .int .i64 0, .bool false] 198)) (.cells #[.string (ba m), .int .i64 (-1), .bool true] 198)).1
     simp only [World.size_alloc] at h1
     exact (hb3.block _ (by simp)).trans h1
    have hbk0 : w3.heap[w.heap.size]? = some (.cells #[.string ⟨#[]⟩, .int .i64 0, .bool false] 198 (0, 0)) := by
     have h1 := (MapKept.heap_alloc w (.cells #[.string ⟨#[]⟩, .int .i64 0, .bool false] 198)).1
     exact (hb3.block _ (by simp; omega)).trans ((heap_alloc_old _ _ (by simp)).trans h1)
    have c0 : w3.cell? ⟨w.heap.size + 1, 0, none⟩ = some (.string (ba m)) := by rw [Lib.cell_of_heap hbk]; rfl
    have c1 : w3.cell? ⟨w.heap.size + 1, 1, none⟩ = some (.int .i64 (-1)) := by rw [Lib.cell_of_heap hbk]; rfl
    have c2 : w3.cell? ⟨w.heap.size + 1, 2, none⟩ = some (.bool true) := by rw [Lib.cell_of_heap hbk]; rfl
    have d0 : w3.cell? ⟨w.heap.size, 0, none⟩ = some (.string ⟨#[]⟩) := by rw [Lib.cell_of_heap hbk0]; rfl
    have d1 : w3.cell? ⟨w.heap.size, 1, none⟩ = some (.int .i64 0) := by rw [Lib.cell_of_heap hbk0]; rfl
    have d2 : w3.cell? ⟨w.heap.size, 2, none⟩ = some (.bool false) := by rw [Lib.cell_of_heap hbk0]; rfl
    have f1 : ∀ i, w3.frozen? ⟨w.heap.size + 1, i, none⟩ = false := fun i => Lib.frozen_of_heap hbk i
    have f0 : ∀ i, w3.frozen? ⟨w.heap.size, i, none⟩ = false := fun i => Lib.frozen_of_heap hbk0 i
    clear hb3 hbk hbk0
    cases hd : decP b 0 63 with
    | none =>
     have HF := Lib.hid (HN2B.out hd)
     clear hd
     go_wp2
     refine bodyPost_ret (v := .agg #[.string (ba m), .int .i64 (-1), .bool true]) (by simp [results, Tryz.results200, go_sem, d0, d1, d2]) rfl ?_
     refine where_fin HF.out ?_
     repeat (first | exact HBW.out | refine Below.setCell ?_ (by simp) _)
    | some v =>
     have HF := Lib.hid (HN3B.out v hd)
     clear hd
     go_wp2
     rw [HEX2.out]
     refine bodyPost_ret (v := .agg #[.string (ba a), .int .i64 v, .bool true]) (by simp [results, Tryz.results200, go_sem, d0, d1, d2]) rfl ?_
     refine where_fin HF.out ?_
     repeat (first | exact HBW.out | refine Below.setCell ?_ (by simp) _)
  | false =>
   have hwd2 : wd = false := by rw [← hwd, h2]; simp
   subst hwd2
   have hmd : m = n := by rw [← hm]; rfl
   subst hmd
   rw [h2] at HSE
   clear hwd hm h1 h2
   go_enter Tryz.func200, Tryz.ntmps200
   go_wp2_with fail
   refine (HSUF.out _).mono ?_
   rintro e w' ⟨rfl, hw⟩
   have hw2 := hw.symm
   subst hw2
   clear hw
   rw [show Lib.hasSuffix (ba m).data.toList (⟨#[42]⟩ : ByteArray).data.toList = false from HSE.out]
   have HW0 := Lib.hid (show Below w.heap.size w ((w.alloc (.cells #[.string ⟨#[]⟩, .int .i64 0, .bool false] 198)).alloc (.cells #[.string (ba m), .int .i64 (-1), .bool false] 198)) from ((Below.refl _ _).alloc (Nat.le_refl _) _).alloc (by simp) _)
   go_wp2_with fail
   refine (HLI.out _).mono ?_
   rintro e w' ⟨rfl, hw⟩
   have hw2 := hw.symm
   subst hw2
   clear hw
   rw [HLV.out]
   cases hlp : lastP 42 m with
   | none =>
    have g5 : lastV 42 m = -1 := by unfold lastV; rw [hlp]
    rw [g5]
    have HF := Lib.hid (HN1.out hlp)
    clear hlp g5
    go_wp2
    go_returns
    exact where_fin HF.out (((Below.refl _ _).alloc (Nat.le_refl _) _).alloc (by simp) _)
   | some q =>
    obtain ⟨a, b⟩ := q
    have hab := (lastP_some hlp).1
    have g5 : lastV 42 m = (a.length : Int) := by unfold lastV; rw [hlp]
    have HN2B := Lib.hid (HN2.out a b hlp)
    have HN3B := Lib.hid (HN3.out a b hlp)
    rw [g5]
    have hsm : (ba m).size = a.length + (b.length + 1) := by rw [ba_size, hab]; simp
    have hex1 : (ba m).extract (a.length + 1) (ba m).size = ba b := by rw [ba_drop, hab]; simp
    have hex2 : (ba m).extract 0 a.length = ba a := by rw [ba_cut, hab]; simp
    have hbl : b.length ≤ 1000000000 := by have := HML.out; rw [← ba_size, hsm] at this; omega
    have hal : a.length ≤ 1000000000 := by have := HML.out; rw [← ba_size, hsm] at this; omega
    have HPA := Lib.hid (num_parse b 0 63 ((w.alloc (.cells #[.string ⟨#[]⟩, .int .i64 0, .bool false] 198)).alloc (.cells #[.string (ba m), .int .i64 (-1), .bool false] 198)) hbl (by omega) (by omega) (HT.out.below HW0.out))
    have HEX1 := Lib.hid hex1
    have HEX2 := Lib.hid hex2
    have hsm2 : (a.length : Int) + 1 ≤ ((ba m).size : Int) := by omega
    have hsm3 : (a.length : Int) ≤ ((ba m).size : Int) := by omega
    have ha0 : (0 : Int) ≤ (a.length : Int) := by omega
    have hge : decide ((0 : Int) ≤ (a.length : Int)) = true := decide_eq_true ha0
    clear hlp g5 hab hbl hsm hex1 hex2
    obtain ⟨A, hA⟩ : ∃ A, a.length = A := ⟨_, rfl⟩
    rw [hA] at hsm2 hsm3 ha0 hge HEX1 HEX2 hal
    rw [hA]
    clear hA
    go_wp2_with fail
    rw [HEX1.out]
    refine HPA.out.mono ?_
    rintro e w3 ⟨rfl, hb3⟩
    have hz3 := hb3.size
    have HBW := Lib.hid (HW0.out.trans (hb3.mono (by simp; omega)))
    have hbk : w3.heap[w.heap.size + 1]? = some (.cells #[.string (ba m), .int .i64 (-1), .bool false] 198 (0, 0)) := by
     have h1 := (MapKept.heap_alloc (w.alloc (.cells #[.string ⟨#[]⟩, .int .i64 0, .bool false] 198)) (.cells #[.string (ba m), .int .i64 (-1), .bool false] 198)).1
     simp only [World.size_alloc] at h1
     exact (hb3.block _ (by simp)).trans h1
    have hbk0 : w3.heap[w.heap.size]? = some (.cells #[.string ⟨#[]⟩, .int .i64 0, .bool false] 198 (0, 0)) := by
     have h1 := (MapKept.heap_alloc w (.cells #[.string ⟨#[]⟩, .int .i64 0, .bool false] 198)).1
     exact (hb3.block _ (by simp; omega)).trans ((heap_alloc_old _ _ (by simp)).trans h1)
    have c0 : w3.cell? ⟨w.heap.size + 1, 0, none⟩ = some (.string (ba m)) := by rw [Lib.cell_of_heap hbk]; rfl
    have c1 : w3.cell? ⟨w.heap.size + 1, 1, none⟩ = some (.int .i64 (-1)) := by rw [Lib.cell_of_heap hbk]; rfl
    have c2 : w3.cell? ⟨w.heap.size + 1, 2, none⟩ = some (.bool false) := by rw [Lib.cell_of_heap hbk]; rfl
    have d0 : w3.cell? ⟨w.heap.size, 0, none⟩ = some (.string ⟨#[]⟩) := by rw [Lib.cell_of_heap hbk0]; rfl
    have d1 : w3.cell? ⟨w.heap.size, 1, none⟩ = some (.int .i64 0) := by rw [Lib.cell_of_heap hbk0]; rfl
    have d2 : w3.cell? ⟨w.heap.size, 2, none⟩ = some (.bool false) := by rw [Lib.cell_of_heap hbk0]; rfl
    have f1 : ∀ i, w3.frozen? ⟨w.heap.size + 1, i, none⟩ = false := fun i => Lib.frozen_of_heap hbk i
    have f0 : ∀ i, w3.frozen? ⟨w.heap.size, i, none⟩ = false := fun i => Lib.frozen_of_heap hbk0 i
    clear hb3 hbk hbk0
    cases hd : decP b 0 63 with
    | none =>
     have HF := Lib.hid (HN2B.out hd)
     clear hd
     go_wp2
     refine bodyPost_ret (v := .agg #[.string (ba m), .int .i64 (-1), .bool false]) (by simp [results, Tryz.results200, go_sem, d0, d1, d2]) rfl ?_
     refine where_fin HF.out ?_
     repeat (first | exact HBW.out | refine Below.setCell ?_ (by simp) _)
    | some v =>
     have HF := Lib.hid (HN3B.out v hd)
     clear hd
     go_wp2
     rw [HEX2.out]
     refine bodyPost_ret (v := .agg #[.string (ba a), .int .i64 v, .bool false]) (by simp [results, Tryz.results200, go_sem, d0, d1, d2]) rfl ?_
     refine where_fin HF.out ?_
     repeat (first | exact HBW.out | refine Below.setCell ?_ (by simp) _)
 ·have g1 : decide ((1 : Int) < ((ba n).size : Int)) = false := decide_eq_false (by rw [ba_size]; omega)
  have hwd2 : wd = false := by rw [← hwd]; simp [h1]
  subst hwd2
  have hmd : m = n := by rw [← hm]; rfl
  subst hmd
  clear hwd hm h1
  go_enter Tryz.func200, Tryz.ntmps200
  have HW0 := Lib.hid (show Below w.heap.size w ((w.alloc (.cells #[.string ⟨#[]⟩, .int .i64 0, .bool false] 198)).alloc (.cells #[.string (ba m), .int .i64 (-1), .bool false] 198)) from ((Below.refl _ _).alloc (Nat.le_refl _) _).alloc (by simp) _)
  go_wp2_with fail
  refine (HLI.out _).mono ?_
  rintro e w' ⟨rfl, hw⟩
  have hw2 := hw.symm
  subst hw2
  clear hw
  rw [HLV.out]
  cases hlp : lastP 42 m with
  | none =>
   have g5 : lastV 42 m = -1 := by unfold lastV; rw [hlp]
   rw [g5]
   have HF := Lib.hid (HN1.out hlp)
   clear hlp g5
   go_wp2
   go_returns
   exact where_fin HF.out (((Below.refl _ _).alloc (Nat.le_refl _) _).alloc (by simp) _)
  | some q =>
   obtain ⟨a, b⟩ := q
   have hab := (lastP_some hlp).1
   have g5 : lastV 42 m = (a.length : Int) := by unfold lastV; rw [hlp]
   have HN2B := Lib.hid (HN2.out a b hlp)
   have HN3B := Lib.hid (HN3.out a b hlp)
   rw [g5]
   have hsm : (ba m).size = a.length + (b.length + 1) := by rw [ba_size, hab]; simp
   have hex1 : (ba m).extract (a.length + 1) (ba m).size = ba b := by rw [ba_drop, hab]; simp
   have hex2 : (ba m).extract 0 a.length = ba a := by rw [ba_cut, hab]; simp
   have hbl : b.length ≤ 1000000000 := by have := HML.out; rw [← ba_size, hsm] at this; omega
   have hal : a.length ≤ 1000000000 := by have := HML.out; rw [← ba_size, hsm] at this; omega
   have HPA := Lib.hid (num_parse b 0 63 ((w.alloc (.cells #[.string ⟨#[]⟩, .int .i64 0, .bool false] 198)).alloc (.cells #[.string (ba m), .int .i64 (-1), .bool false] 198)) hbl (by omega) (by omega) (HT.out.below HW0.out))
   have HEX1 := Lib.hid hex1
   have HEX2 := Lib.hid hex2
   have hsm2 : (a.length : Int) + 1 ≤ ((ba m).size : Int) := by omega
   have hsm3 : (a.length : Int) ≤ ((ba m).size : Int) := by omega
   have ha0 : (0 : Int) ≤ (a.length : Int) := by omega
   have hge : decide ((0 : Int) ≤ (a.length : Int)) = true := decide_eq_true ha0
   clear hlp g5 hab hbl hsm hex1 hex2
   obtain ⟨A, hA⟩ : ∃ A, a.length = A := ⟨_, rfl⟩
   rw [hA] at hsm2 hsm3 ha0 hge HEX1 HEX2 hal
   rw [hA]
   clear hA
   go_wp2_with fail
   rw [HEX1.out]
   refine HPA.out.mono ?_
   rintro e w3 ⟨rfl, hb3⟩
   have hz3 := hb3.size
   have HBW := Lib.hid (HW0.out.trans (hb3.mono (by simp; omega)))
   have hbk : w3.heap[w.heap.size + 1]? = some (.cells #[.string (ba m), .int .i64 (-1), .bool false] 198 (0, 0)) := by
    have h1 := (MapKept.heap_alloc (w.alloc (.cells #[.string ⟨#[]⟩, .int .i64 0, .bool false] 198)) (.cells #[.string (ba m), .int .i64 (-1), .bool false] 198)).1
    simp only [World.size_alloc] at h1
    exact (hb3.block _ (by simp)).trans h1
   have hbk0 : w3.heap[w.heap.size]? = some (.cells #[.string ⟨#[]⟩, .int .i64 0, .bool false] 198 (0, 0)) := by
    have h1 := (MapKept.heap_alloc w (.cells #[.string ⟨#[]⟩, .int .i64 0, .bool false] 198)).1
    exact (hb3.block _ (by simp; omega)).trans ((heap_alloc_old _ _ (by simp)).trans h1)
   have c0 : w3.cell? ⟨w.heap.size + 1, 0, none⟩ = some (.string (ba m)) := by rw [Lib.cell_of_heap hbk]; rfl
   have c1 : w3.cell? ⟨w.heap.size + 1, 1, none⟩ = some (.int .i64 (-1)) := by rw [Lib.cell_of_heap hbk]; rfl
   have c2 : w3.cell? ⟨w.heap.size + 1, 2, none⟩ = some (.bool false) := by rw [Lib.cell_of_heap hbk]; rfl
   have d0 : w3.cell? ⟨w.heap.size, 0, none⟩ = some (.string ⟨#[]⟩) := by rw [Lib.cell_of_heap hbk0]; rfl
   have d1 : w3.cell? ⟨w.heap.size, 1, none⟩ = some (.int .i64 0) := by rw [Lib.cell_of_heap hbk0]; rfl
   have d2 : w3.cell? ⟨w.heap.size, 2, none⟩ = some (.bool false) := by rw [Lib.cell_of_heap hbk0]; rfl
   have f1 : ∀ i, w3.frozen? ⟨w.heap.size + 1, i, none⟩ = false := fun i => Lib.frozen_of_heap hbk i
   have f0 : ∀ i, w3.frozen? ⟨w.heap.size, i, none⟩ = false := fun i => Lib.frozen_of_heap hbk0 i
   clear hb3 hbk hbk0
   cases hd : decP b 0 63 with
   | none =>
    have HF := Lib.hid (HN2B.out hd)
    clear hd
    go_wp2
    refine bodyPost_ret (v := .agg #[.string (ba m), .int .i64 (-1), .bool false]) (by simp [results, Tryz.results200, go_sem, d0, d1, d2]) rfl ?_
    refine where_fin HF.out ?_
    repeat (first | exact HBW.out | refine Below.setCell ?_ (by simp) _)
   | some v =>
    have HF := Lib.hid (HN3B.out v hd)
    clear hd
    go_wp2
    rw [HEX2.out]
    refine bodyPost_ret (v := .agg #[.string (ba a), .int .i64 v, .bool false]) (by simp [results, Tryz.results200, go_sem, d0, d1, d2]) rfl ?_
    refine where_fin HF.out ?_
    repeat (first | exact HBW.out | refine Below.setCell ?_ (by simp) _)
end Go.Proofs.YthidbmeaccpjdaaGreatDoor
