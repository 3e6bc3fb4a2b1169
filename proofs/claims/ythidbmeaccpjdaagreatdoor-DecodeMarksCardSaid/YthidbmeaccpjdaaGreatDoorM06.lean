/- Layer 10: the contract of closed. Maps of the call's own, told key by key: spots as keys. The reference of layer 12: the contracts of Small, find, has, letter, Word and Text. Layer 15: the contract of small. The contract of small (charset). Layer 9: the contract of small. Layer 14: the contract of lower. The library: the replacing of the bytes that a quoted string escapes. The reference of layer 10: the contracts of blank, special and atom. The reference of layer 10: the contract of end (printed by gen_rend. -/
import Derived.Laws.CopyOwn
import Derived.Test.YthidbmeaccpjdaaGreatDoorM04
import Derived.Test.YthidbmeaccpjdaaGreatDoorM03
import Derived.Test.YthidbmeaccpjdaaGreatDoorM05
import Derived.Test.YthidbmeaccpjdaaGreatDoorM02
import Derived.Test.YthidbmeaccpjdaaGreatDoorShelfP
namespace Go.Proofs.YthidbmeaccpjdaaGreatDoor
open Go.RowKit
set_option linter.unusedVariables false
set_option maxHeartbeats 4000000
set_option maxRecDepth 100000 in
theorem closed_any (z : UInt8) (l : List UInt8) (w : World) (hl : l.length ≤ 1000000000) (h1 : 1 ≤ l.length) :
  Calls Tryz.prog 205 #[.string (ba l), .int .u8 (z.toNat : Int)] w fun e w' => e = .returned (.tuple #[.int .i64 ((closedV z l).1 : Nat), .bool (closedV z l).2]) ∧ w' = w := by
 have HN := Lib.hid (ba_size l)
 obtain ⟨s, hs⟩ : ∃ s, ba l = s := ⟨_, rfl⟩
 rw [hs] at HN ⊢
 have HS := Lib.hid hs
 clear hs
 obtain ⟨n, hn⟩ : ∃ n, l.length = n := ⟨_, rfl⟩
 have HL := Lib.hid hn
 rw [hn] at hl h1
 have HZ := Lib.hid (show s.size = n by rw [HN.out, hn])
 clear hn
 obtain ⟨zi, hzi⟩ : ∃ x : Int, (z.toNat : Int) = x := ⟨_, rfl⟩
 have HZI := Lib.hid hzi
 rw [hzi]
 clear hzi
 go_enter Tryz.func205, Tryz.ntmps205
 have hsz : (s.size : Int) = n := by rw [HZ.out]
 go_wp2
 go_loop [6, 7] (fun dv i => ∃ d k : Nat, 1 ≤ k ∧ k ≤ n + 1 ∧ 1 ≤ d ∧ d ≤ k ∧ i = .int .i64 (k : Int) ∧ dv = .int .i64 (d : Int) ∧ Hid (ClRel z l d k)) (fun _ i => n + 1 - (intOf i).toNat)
 case atStart => exact ⟨1, 1, by omega, by omega, by omega, by omega, rfl, rfl, Lib.hid (by unfold ClRel; simp)⟩
 case round =>
  obtain ⟨d, k, hk1, hkn, hd1, hdk, rfl, rfl, HR⟩ := hrel
  by_cases hlt : k < n
  ·have hk2 : (k : Int) < (n : Int) := by omega
   have hk0 : (0 : Int) ≤ (k : Int) := by omega
   have hks : k < s.size := by rw [HZ.out]; exact hlt
   have hkl : k < l.length := by rw [HL.out]; exact hlt
   have hget : s[k] = l[k] := by
    have h := HS.out
    subst h
    rfl
   have hrel := HR.out
   unfold ClRel at hrel
   rw [drop_at hkl, closeP_cons] at hrel
   obtain ⟨c, hc⟩ : ∃ c, l[k] = c := ⟨_, rfl⟩
   rw [hc] at hget hrel
   have hgi : ((s[k]).toNat : Int) = (c.toNat : Int) := by rw [hget]
   obtain ⟨x, hx⟩ : ∃ x : Int, (c.toNat : Int) = x := ⟨_, rfl⟩
   rw [hx] at hgi
   have HX := Lib.hid hx
   have HREL := Lib.hid hrel
   clear hc hkl hget hx hrel
   by_cases e1 : x = 92
   ·have g1 : (x == 92) = true := by simpa using e1
    have HC := Lib.hid (show c = 92 from u8_int_eq.1 (by rw [HX.out]; exact e1))
    have HN2 := Lib.hid (show ClRel z l d (k + 2) by
     unfold ClRel
     have h := HREL.out
     rw [if_pos HC.out, List.drop_drop, map_map_add, show k + 1 + 1 = k + 2 by omega, show 2 + (k - 1) = k + 2 - 1 by omega] at h
     exact h)
    have gd : ((d : Int) == 0) = false := by simp; omega
    clear e1
    go_wp2
    go_round
    case rel => exact ⟨d, k + 2, by omega, by omega, by omega, by omega, by go_num, rfl, HN2⟩
    case measure => simp [intOf] <;> omega
   have g1 : (x == 92) = false := by simpa using e1
   have HC := Lib.hid (show ¬ c = 92 from fun h => e1 (by rw [← HX.out, h]; rfl))
   by_cases e2 : x = zi
   ·have g2 : (x == zi) = true := by simpa using e2
    have HE := Lib.hid (show c = z from u8_int_eq.1 (by rw [HX.out, HZI.out]; exact e2))
    by_cases hd : d = 1
    ·have HV := Lib.hid (show closedV z l = (k + 1, true) by
      unfold closedV
      have h := HREL.out
      rw [if_neg HC.out, if_pos HE.out, if_pos hd] at h
      rw [h]
      show (1 + (k - 1) + 1, true) = _
      rw [show 1 + (k - 1) + 1 = k + 1 by omega])
     subst hd
     clear e1 e2
     go_wp2
     go_ret2
     exact ⟨by rw [HV.out]; simp, rfl⟩
    ·have HN2 := Lib.hid (show ClRel z l (d - 1) (k + 1) by
      unfold ClRel
      have h := HREL.out
      rw [if_neg HC.out, if_pos HE.out, if_neg hd, map_map_add, show 1 + (k - 1) = k + 1 - 1 by omega] at h
      exact h)
     have gd : ((d : Int) - 1 == 0) = false := by simp; omega
     have hd2 : (1 : Int) ≤ (d : Int) - 1 := by omega
     clear e1 e2
     go_wp2
     go_round
     case rel => exact ⟨d - 1, k + 1, by omega, by omega, by omega, by omega, by go_num, by rw [show ((d - 1 : Nat) : Int) = (d : Int) - 1 by omega], HN2⟩
     case measure => simp [intOf] <;> omega
   have g2 : (x == zi) = false := by simpa using e2
   have HE := Lib.hid (show ¬ c = z from fun h => e2 (by rw [← HX.out, ← HZI.out, h]))
   by_cases e3 : x = 40
   ·have g3 : (x == 40) = true := by simpa using e3
    have HC4 := Lib.hid (show c = 40 from u8_int_eq.1 (by rw [HX.out]; exact e3))
    by_cases e4 : zi = 41
    ·have g4 : (zi == 41) = true := by simpa using e4
     have HZ4 := Lib.hid (show z = 41 from u8_int_eq.1 (by rw [HZI.out]; exact e4))
     have HN2 := Lib.hid (show ClRel z l (d + 1) (k + 1) by
      unfold ClRel
      have h := HREL.out
      rw [if_neg HC.out, if_neg HE.out, if_pos ⟨HC4.out, HZ4.out⟩, map_map_add, show 1 + (k - 1) = k + 1 - 1 by omega] at h
      exact h)
     have gd : ((d : Int) + 1 == 0) = false := by simp; omega
     clear e1 e2 e3 e4
     go_wp2
     go_round
     case rel => exact ⟨d + 1, k + 1, by omega, by omega, by omega, by omega, by go_num, by go_num, HN2⟩
     case measure => simp [intOf] <;> omega
    ·have g4 : (zi == 41) = false := by simpa using e4
     have HN2 := Lib.hid (show ClRel z l d (k + 1) by
      unfold ClRel
      have h := HREL.out
      rw [if_neg HC.out, if_neg HE.out, if_neg (fun hh => e4 (by rw [← HZI.out, hh.2]; rfl)), map_map_add, show 1 + (k - 1) = k + 1 - 1 by omega] at h
      exact h)
     have gd : ((d : Int) == 0) = false := by simp; omega
     clear e1 e2 e3 e4
     go_wp2
     go_round
     case rel => exact ⟨d, k + 1, by omega, by omega, by omega, by omega, by go_num, rfl, HN2⟩
     case measure => simp [intOf] <;> omega
   ·have g3 : (x == 40) = false := by simpa using e3
    have HN2 := Lib.hid (show ClRel z l d (k + 1) by
     unfold ClRel
     have h := HREL.out
     rw [if_neg HC.out, if_neg HE.out, if_neg (fun hh => e3 (by rw [← HX.out, hh.1]; rfl)), map_map_add, show 1 + (k - 1) = k + 1 - 1 by omega] at h
     exact h)
    have gd : ((d : Int) == 0) = false := by simp; omega
    clear e1 e2 e3
    go_wp2
    go_round
    case rel => exact ⟨d, k + 1, by omega, by omega, by omega, by omega, by go_num, rfl, HN2⟩
    case measure => simp [intOf] <;> omega
  ·have hk2 : ¬ (k : Int) < (n : Int) := by omega
   have HV := Lib.hid (show closedV z l = (n, false) by
    unfold closedV
    have h := HR.out
    unfold ClRel at h
    rw [List.drop_of_length_le (show l.length ≤ k by rw [HL.out]; omega)] at h
    have h0 : closeP z d [] = none := by unfold closeP; rfl
    rw [h0] at h
    rw [h]
    show (l.length, false) = _
    rw [HL.out])
   go_wp2
   go_ret2
   exact ⟨by rw [HV.out]; simp, rfl⟩
theorem rowS : (198 : TypeId) < Tryz.prog.types.size := of_decide_eq_true (by kernel_rfl)
theorem lawS : WideMaps.KeyLaw Tryz.prog 198 := deep_law_laid laidOut (m := 3) (by omega) rowS (by kernel_rfl) (by rw [Tryz.underlying198])
theorem cellsS : Tryz.prog.cellsOf 198 = 3 := by kernel_rfl
theorem cells3 : Tryz.prog.cellsOf 3 = 1 := by kernel_rfl
theorem cells4 : Tryz.prog.cellsOf 4 = 1 := by kernel_rfl
theorem cells9 : Tryz.prog.cellsOf 9 = 1 := by kernel_rfl
theorem ktS : Tryz.prog.keyType 198 = true := by kernel_rfl
theorem types_sizeS : ∃ n, Tryz.prog.types.size + 1 = n + 2 := ⟨Tryz.prog.types.size - 1, by have : (198 : Nat) < Tryz.prog.types.size := rowS; omega⟩
def spotV (p : Spot3) : Value := .agg #[.string (ba p.name), .int .i64 p.section_, .bool p.wide]
def SpotFits (p : Spot3) : Prop := (Lit.int .i64 p.section_).wf = true ∧ p.name.length ≤ maxLen
theorem spot_some {p : Spot3} (h : SpotFits p) : ∃ l, keyOf Tryz.prog 198 (spotV p) = some l := by
 obtain ⟨n, hn⟩ := types_sizeS
 have hf : (spotV p).formed Tryz.prog 198 = true := by simp [spotV, Value.formed, Tryz.underlying198, cellsS]
 have hc : (spotV p).cells.toList = [.string (ba p.name), .int .i64 p.section_, .bool p.wide] := rfl
 have h1 := h.1
 have h2 : (ba p.name).size ≤ maxLen := by rw [ba_size]; exact h.2
 unfold keyOf
 rw [Tryz.underlying198]
 simp only [ktS, hf, hn, hc]
 simp [Program.keyLits, Tryz.underlying198, Tryz.underlying3, Tryz.underlying9, Tryz.underlying4, cellsS, cells3, cells4, cells9, h1, h2]
noncomputable def spotL (p : Spot3) : Lit := (keyOf Tryz.prog 198 (spotV p)).getD (.bool false)
theorem spotL_of (p : Spot3) (h : SpotFits p) : keyOf Tryz.prog 198 (spotV p) = some (spotL p) := by
 obtain ⟨l, hl⟩ := spot_some h
 unfold spotL; rw [hl]; rfl
theorem spotV_inj {p q : Spot3} (h : spotV p = spotV q) : p = q := by
 simp only [spotV, Value.agg.injEq] at h
 have h3 : [Value.string (ba p.name), Value.int .i64 p.section_, Value.bool p.wide] = [Value.string (ba q.name), Value.int .i64 q.section_, Value.bool q.wide] := congrArg Array.toList h
 simp only [List.cons.injEq, Value.int.injEq, Value.string.injEq, Value.bool.injEq, and_true, true_and] at h3
 obtain ⟨a, b, c⟩ := p
 obtain ⟨a', b', c'⟩ := q
 have e1 : a = a' := ba_inj.1 h3.1
 have e2 : b = b' := h3.2.1
 have e3 : c = c' := h3.2.2
 subst e1; subst e2; subst e3
 rfl
noncomputable def spotK : KeyL 198 Spot3 where
 kv := spotV
 fits := SpotFits
 kk := spotL
 keyed := .of_law lawS
 of := spotL_of
 inj := fun x y hx hy h => spotV_inj (lawS.inj (spotL_of x hx) (by rw [h]; exact spotL_of y hy))
theorem u8_int_eq' {c d : UInt8} : (c.toNat : Int) = (d.toNat : Int) ↔ c = d := ⟨fun h => UInt8.toNat_inj.1 (by omega), fun h => by rw [h]⟩
theorem OwnBytes.shape {w : World} {B : Nat} {v : Value} {l : List UInt8} (h : OwnBytes w B v l) : ∃ A c, v = .slice A l.length c := by
 rcases h.2 with ⟨rfl, h0⟩ | ⟨g, cap, cur, rfl, hb, hg, q1, q2, q3⟩
 ·exact ⟨none, 0, by rw [h0]⟩
 ·exact ⟨_, cap, rfl⟩
def findV (c : UInt8) (l : List UInt8) : Int := match cutP c l with
 | some q => (q.1.length : Int)
 | none => -1
theorem u8_le_int (c d : UInt8) : (c ≤ d) ↔ (c.toNat : Int) ≤ (d.toNat : Int) := by rw [UInt8.le_iff_toNat_le]; omega
theorem letterB_int (c : UInt8) : letterB c = (decide (97 ≤ (c.toNat : Int)) && decide ((c.toNat : Int) ≤ 122) || decide (65 ≤ (c.toNat : Int)) && decide ((c.toNat : Int) ≤ 90) || decide (48 ≤ (c.toNat : Int)) && decide ((c.toNat : Int) ≤ 57)) := by
 unfold letterB
 rw [Bool.eq_iff_iff]
 simp only [Bool.or_eq_true, Bool.and_eq_true, decide_eq_true_iff, u8_le_int]
 rfl
theorem letterV {c : UInt8} {x : Int} (h : (c.toNat : Int) = x) {b : Bool} (hb : (decide (97 ≤ x) && decide (x ≤ 122) || decide (65 ≤ x) && decide (x ≤ 90) || decide (48 ≤ x) && decide (x ≤ 57)) = b) : letterB c = b := by
 subst h
 rw [letterB_int, hb]
theorem wb_snoc {l : List UInt8} {k : Nat} (hk : k < l.length) : (l.take (k + 1)).all wordB = ((l.take k).all wordB && wordB l[k]) := by
 rw [List.take_succ_eq_append_getElem hk, List.all_append]
 simp
theorem isWord_stop {l : List UInt8} {k : Nat} (hk : k < l.length) (h : wordB l[k] = false) : isWord l = false := by
 unfold isWord
 have : l.all wordB = false := by
  rw [List.all_eq_false]
  exact ⟨l[k], List.getElem_mem hk, by rw [h]; decide⟩
 rw [this]
 rfl
set_option maxRecDepth 100000 in
theorem dcsmall_any (l : List UInt8) (w : World) (hl : l.length ≤ 1000000000) :
  Calls Tryz.prog 115 #[.string (ba l)] w (StrB w (smallP l)) := by
 have hcv := fun (W : World) (S : ByteArray) => run_bytes_of_string (P := Tryz.prog) W 9 62 5 S Tryz.underlying9 Tryz.underlying62 Tryz.underlying5
 have HR0 := Lib.hid (fun (cap m : Nat) (hm : l.length ≤ m) => ByteRow.of_string w l cap 5 m hm)
 obtain ⟨n, hn⟩ : ∃ n, l.length = n := ⟨_, rfl⟩
 have HL := Lib.hid hn
 obtain ⟨s, hs⟩ : ∃ s, ba l = s := ⟨_, rfl⟩
 have HS := Lib.hid hs
 have HZ := Lib.hid (show s.size = n by rw [← hs, ba_size, hn])
 have hsz : (s.size : Int) = n := by rw [HZ.out]
 rw [hs]
 rw [hn] at hl
 clear hs hn
 rw [HS.out] at HR0
 go_enter Tryz.func115, Tryz.ntmps115
 go_wp2
 obtain ⟨C, hC⟩ : ∃ C, grownCap w s.size 0 5 = C := ⟨_, rfl⟩
 have HCN := Lib.hid (show l.length ≤ (bytesRow s C).size by rw [bytesRow_size s C (by rw [← hC]; have := grownCap_ge w s.size 0 5; omega), ← hC, HL.out]; have := grownCap_ge w s.size 0 5; omega)
 rw [hC]
 clear hC hcv
 go_loopw [10] (fun i wr => ∃ k : Nat, k ≤ n ∧ i = .int .i64 (k : Int) ∧ Hid (SmRel w l k wr)) (fun i _ => n - (intOf i).toNat)
 case atStart =>
  refine ⟨0, Nat.zero_le _, rfl, Lib.hid ⟨?_, (Below.refl _ _).drew.alloc (Nat.le_refl _) _⟩⟩
  rw [show smallP (l.take 0) ++ l.drop 0 = l from rfl]
  exact (HR0.out C _ HCN.out).drew
 case round =>
  obtain ⟨k, hk, rfl, HR⟩ := hrel
  have hsz2 := HR.out.bel.size
  by_cases hlt : k < n
  ·have hk2 : (k : Int) < (n : Int) := by omega
   have hk3 : (k : Int) < (s.size : Int) := by omega
   have hk0 : (0 : Int) ≤ (k : Int) := by omega
   have hkl : k < l.length := by rw [HL.out]; exact hlt
   have hks : k < (smallP (l.take k) ++ l.drop k).length := by rw [sm_len]; exact hkl
   have hcell := HR.out.row.cell hks
   have hfree := HR.out.row.free hks
   rw [sm_get hkl hks] at hcell
   have HST := Lib.hid (sm_step hkl)
   have HSA := Lib.hid (sm_same hkl)
   have HSET := Lib.hid (HR.out.row.set hks (smallB l[k]))
   obtain ⟨c, hc⟩ : ∃ c, l[k] = c := ⟨_, rfl⟩
   rw [hc] at hcell HST HSA HSET
   have HY := Lib.hid (smallB_yes (c := c))
   have HNO := Lib.hid (smallB_no (c := c))
   obtain ⟨x, hx⟩ : ∃ x : Int, (c.toNat : Int) = x := ⟨_, rfl⟩
   rw [hx] at hcell HY HNO
   have hx0 : 0 ≤ x := by omega
   have hx1 : x ≤ 255 := by have := c.toNat_lt; omega
   have HX := Lib.hid hx
   clear hc hkl hks hx
   by_cases e1 : 65 ≤ x
   ·by_cases e2 : x ≤ 90
    ·have g1 : decide (65 ≤ x) = true := decide_eq_true e1
     have g2 : decide (x ≤ 90) = true := decide_eq_true e2
     have HV := Lib.hid (show (smallB c).toNat = x + 32 by rw [HY.out ⟨e1, e2⟩]; have := HX.out; have := c.toNat_lt; simp; omega)
     go_wp2
     go_roundw
     case rel =>
      refine ⟨k + 1, by omega, by go_num, Lib.hid ⟨?_, HR.out.bel.setCell (Nat.le_refl _) _⟩⟩
      rw [HST.out]
      have := HSET.out
      rw [HV.out] at this
      exact this
     case measure => simp [intOf] <;> omega
    ·have g1 : decide (65 ≤ x) = true := decide_eq_true e1
     have g2 : decide (x ≤ 90) = false := decide_eq_false e2
     have HV := Lib.hid (HSA.out (HNO.out fun h => e2 h.2))
     clear hfree
     go_wp2
     go_roundw
     case rel =>
      refine ⟨k + 1, by omega, by go_num, Lib.hid ⟨?_, HR.out.bel⟩⟩
      rw [HV.out]
      exact HR.out.row
     case measure => simp [intOf] <;> omega
   ·have g1 : decide (65 ≤ x) = false := decide_eq_false e1
    have HV := Lib.hid (HSA.out (HNO.out fun h => e1 h.1))
    clear hfree
    go_wp2
    go_roundw
    case rel =>
     refine ⟨k + 1, by omega, by go_num, Lib.hid ⟨?_, HR.out.bel⟩⟩
     rw [HV.out]
     exact HR.out.row
    case measure => simp [intOf] <;> omega
  ·obtain rfl : k = n := by omega
   have hrow : ByteRow wr w.heap.size (smallP l) := by
    have := HR.out.row
    rw [List.take_of_length_le (by rw [HL.out]; exact Nat.le_refl _), List.drop_of_length_le (by rw [HL.out]; exact Nat.le_refl _), List.append_nil] at this
    exact this
   have hback := run_convert_bytes_back (P := Tryz.prog) wr 62 9 5 ⟨w.heap.size, 0, none⟩ C (smallP l) Tryz.underlying62 Tryz.underlying5 Tryz.underlying9 hrow.cells
   rw [smallP_len, HL.out, ← HZ.out] at hback
   clear hrow hsz
   go_wp2
   go_ret
   exact ⟨rfl, HR.out.bel⟩
set_option maxRecDepth 100000 in
theorem chsmall_big (l : List UInt8) (w : World) (hl : l.length ≤ 4000000000) :
  Calls Tryz.prog 92 #[.string (ba l)] w (StrB w (smallP l)) := by
 have hcv := fun (W : World) (S : ByteArray) => run_bytes_of_string (P := Tryz.prog) W 9 62 5 S Tryz.underlying9 Tryz.underlying62 Tryz.underlying5
 have HR0 := Lib.hid (fun (cap m : Nat) (hm : l.length ≤ m) => ByteRow.of_string w l cap 5 m hm)
 obtain ⟨n, hn⟩ : ∃ n, l.length = n := ⟨_, rfl⟩
 have HL := Lib.hid hn
 obtain ⟨s, hs⟩ : ∃ s, ba l = s := ⟨_, rfl⟩
 have HS := Lib.hid hs
 have HZ := Lib.hid (show s.size = n by rw [← hs, ba_size, hn])
 have hsz : (s.size : Int) = n := by rw [HZ.out]
 rw [hs]
 rw [hn] at hl
 clear hs hn
 rw [HS.out] at HR0
 go_enter Tryz.func92, Tryz.ntmps92
 go_wp2
 obtain ⟨C, hC⟩ : ∃ C, grownCap w s.size 0 5 = C := ⟨_, rfl⟩
 have HCN := Lib.hid (show l.length ≤ (bytesRow s C).size by rw [bytesRow_size s C (by rw [← hC]; have := grownCap_ge w s.size 0 5; omega), ← hC, HL.out]; have := grownCap_ge w s.size 0 5; omega)
 rw [hC]
 clear hC hcv
 go_loopw [10] (fun i wr => ∃ k : Nat, k ≤ n ∧ i = .int .i64 (k : Int) ∧ Hid (SmRel w l k wr)) (fun i _ => n - (intOf i).toNat)
 case atStart =>
  refine ⟨0, Nat.zero_le _, rfl, Lib.hid ⟨?_, (Below.refl _ _).drew.alloc (Nat.le_refl _) _⟩⟩
  rw [show smallP (l.take 0) ++ l.drop 0 = l from rfl]
  exact (HR0.out C _ HCN.out).drew
 case round =>
  obtain ⟨k, hk, rfl, HR⟩ := hrel
  have hsz2 := HR.out.bel.size
  by_cases hlt : k < n
  ·have hk2 : (k : Int) < (n : Int) := by omega
   have hk3 : (k : Int) < (s.size : Int) := by omega
   have hk0 : (0 : Int) ≤ (k : Int) := by omega
   have hkl : k < l.length := by rw [HL.out]; exact hlt
   have hks : k < (smallP (l.take k) ++ l.drop k).length := by rw [sm_len]; exact hkl
   have hcell := HR.out.row.cell hks
   have hfree := HR.out.row.free hks
   rw [sm_get hkl hks] at hcell
   have HST := Lib.hid (sm_step hkl)
   have HSA := Lib.hid (sm_same hkl)
   have HSET := Lib.hid (HR.out.row.set hks (smallB l[k]))
   obtain ⟨c, hc⟩ : ∃ c, l[k] = c := ⟨_, rfl⟩
   rw [hc] at hcell HST HSA HSET
   have HY := Lib.hid (smallB_yes (c := c))
   have HNO := Lib.hid (smallB_no (c := c))
   obtain ⟨x, hx⟩ : ∃ x : Int, (c.toNat : Int) = x := ⟨_, rfl⟩
   rw [hx] at hcell HY HNO
   have hx0 : 0 ≤ x := by omega
   have hx1 : x ≤ 255 := by have := c.toNat_lt; omega
   have HX := Lib.hid hx
   clear hc hkl hks hx
   by_cases e1 : 65 ≤ x
   ·by_cases e2 : x ≤ 90
    ·have g1 : decide (65 ≤ x) = true := decide_eq_true e1
     have g2 : decide (x ≤ 90) = true := decide_eq_true e2
     have HV := Lib.hid (show (smallB c).toNat = x + 32 by rw [HY.out ⟨e1, e2⟩]; have := HX.out; have := c.toNat_lt; simp; omega)
     go_wp2
     go_roundw
     case rel =>
      refine ⟨k + 1, by omega, by go_num, Lib.hid ⟨?_, HR.out.bel.setCell (Nat.le_refl _) _⟩⟩
      rw [HST.out]
      have := HSET.out
      rw [HV.out, show x + 32 = x + 97 - 65 by omega] at this
      exact this
     case measure => simp [intOf] <;> omega
    ·have g1 : decide (65 ≤ x) = true := decide_eq_true e1
     have g2 : decide (x ≤ 90) = false := decide_eq_false e2
     have HV := Lib.hid (HSA.out (HNO.out fun h => e2 h.2))
     clear hfree
     go_wp2
     go_roundw
     case rel =>
      refine ⟨k + 1, by omega, by go_num, Lib.hid ⟨?_, HR.out.bel⟩⟩
      rw [HV.out]
      exact HR.out.row
     case measure => simp [intOf] <;> omega
   ·have g1 : decide (65 ≤ x) = false := decide_eq_false e1
    have HV := Lib.hid (HSA.out (HNO.out fun h => e1 h.1))
    clear hfree
    go_wp2
    go_roundw
    case rel =>
     refine ⟨k + 1, by omega, by go_num, Lib.hid ⟨?_, HR.out.bel⟩⟩
     rw [HV.out]
     exact HR.out.row
    case measure => simp [intOf] <;> omega
  ·obtain rfl : k = n := by omega
   have hrow : ByteRow wr w.heap.size (smallP l) := by
    have := HR.out.row
    rw [List.take_of_length_le (by rw [HL.out]; exact Nat.le_refl _), List.drop_of_length_le (by rw [HL.out]; exact Nat.le_refl _), List.append_nil] at this
    exact this
   have hback := run_convert_bytes_back (P := Tryz.prog) wr 62 9 5 ⟨w.heap.size, 0, none⟩ C (smallP l) Tryz.underlying62 Tryz.underlying5 Tryz.underlying9 hrow.cells
   rw [smallP_len, HL.out, ← HZ.out] at hback
   clear hrow hsz
   go_wp2
   go_ret
   exact ⟨rfl, HR.out.bel⟩
set_option maxRecDepth 100000 in
theorem hdsmall_any (l : List UInt8) (w : World) (hl : l.length ≤ 1000000000) :
  Calls Tryz.prog 196 #[.string (ba l)] w (StrB w (smallP l)) := by
 have hcv := fun (W : World) (S : ByteArray) => run_bytes_of_string (P := Tryz.prog) W 9 62 5 S Tryz.underlying9 Tryz.underlying62 Tryz.underlying5
 have HR0 := Lib.hid (fun (cap m : Nat) (hm : l.length ≤ m) => ByteRow.of_string w l cap 5 m hm)
 obtain ⟨n, hn⟩ : ∃ n, l.length = n := ⟨_, rfl⟩
 have HL := Lib.hid hn
 obtain ⟨s, hs⟩ : ∃ s, ba l = s := ⟨_, rfl⟩
 have HS := Lib.hid hs
 have HZ := Lib.hid (show s.size = n by rw [← hs, ba_size, hn])
 have hsz : (s.size : Int) = n := by rw [HZ.out]
 rw [hs]
 rw [hn] at hl
 clear hs hn
 rw [HS.out] at HR0
 go_enter Tryz.func196, Tryz.ntmps196
 go_wp2
 obtain ⟨C, hC⟩ : ∃ C, grownCap w s.size 0 5 = C := ⟨_, rfl⟩
 have HCN := Lib.hid (show l.length ≤ (bytesRow s C).size by rw [bytesRow_size s C (by rw [← hC]; have := grownCap_ge w s.size 0 5; omega), ← hC, HL.out]; have := grownCap_ge w s.size 0 5; omega)
 rw [hC]
 clear hC hcv
 go_loopw [10] (fun i wr => ∃ k : Nat, k ≤ n ∧ i = .int .i64 (k : Int) ∧ Hid (SmRel w l k wr)) (fun i _ => n - (intOf i).toNat)
 case atStart =>
  refine ⟨0, Nat.zero_le _, rfl, Lib.hid ⟨?_, (Below.refl _ _).drew.alloc (Nat.le_refl _) _⟩⟩
  rw [show smallP (l.take 0) ++ l.drop 0 = l from rfl]
  exact (HR0.out C _ HCN.out).drew
 case round =>
  obtain ⟨k, hk, rfl, HR⟩ := hrel
  have hsz2 := HR.out.bel.size
  by_cases hlt : k < n
  ·have hk2 : (k : Int) < (n : Int) := by omega
   have hk3 : (k : Int) < (s.size : Int) := by omega
   have hk0 : (0 : Int) ≤ (k : Int) := by omega
   have hkl : k < l.length := by rw [HL.out]; exact hlt
   have hks : k < (smallP (l.take k) ++ l.drop k).length := by rw [sm_len]; exact hkl
   have hcell := HR.out.row.cell hks
   have hfree := HR.out.row.free hks
   rw [sm_get hkl hks] at hcell
   have HST := Lib.hid (sm_step hkl)
   have HSA := Lib.hid (sm_same hkl)
   have HSET := Lib.hid (HR.out.row.set hks (smallB l[k]))
   obtain ⟨c, hc⟩ : ∃ c, l[k] = c := ⟨_, rfl⟩
   rw [hc] at hcell HST HSA HSET
   have HY := Lib.hid (smallB_yes (c := c))
   have HNO := Lib.hid (smallB_no (c := c))
   obtain ⟨x, hx⟩ : ∃ x : Int, (c.toNat : Int) = x := ⟨_, rfl⟩
   rw [hx] at hcell HY HNO
   have hx0 : 0 ≤ x := by omega
   have hx1 : x ≤ 255 := by have := c.toNat_lt; omega
   have HX := Lib.hid hx
   clear hc hkl hks hx
   by_cases e1 : 65 ≤ x
   ·by_cases e2 : x ≤ 90
    ·have g1 : decide (65 ≤ x) = true := decide_eq_true e1
     have g2 : decide (x ≤ 90) = true := decide_eq_true e2
     have HV := Lib.hid (show (smallB c).toNat = x + 32 by rw [HY.out ⟨e1, e2⟩]; have := HX.out; have := c.toNat_lt; simp; omega)
     go_wp2
     go_roundw
     case rel =>
      refine ⟨k + 1, by omega, by go_num, Lib.hid ⟨?_, HR.out.bel.setCell (Nat.le_refl _) _⟩⟩
      rw [HST.out]
      have := HSET.out
      rw [HV.out] at this
      exact this
     case measure => simp [intOf] <;> omega
    ·have g1 : decide (65 ≤ x) = true := decide_eq_true e1
     have g2 : decide (x ≤ 90) = false := decide_eq_false e2
     have HV := Lib.hid (HSA.out (HNO.out fun h => e2 h.2))
     clear hfree
     go_wp2
     go_roundw
     case rel =>
      refine ⟨k + 1, by omega, by go_num, Lib.hid ⟨?_, HR.out.bel⟩⟩
      rw [HV.out]
      exact HR.out.row
     case measure => simp [intOf] <;> omega
   ·have g1 : decide (65 ≤ x) = false := decide_eq_false e1
    have HV := Lib.hid (HSA.out (HNO.out fun h => e1 h.1))
    clear hfree
    go_wp2
    go_roundw
    case rel =>
     refine ⟨k + 1, by omega, by go_num, Lib.hid ⟨?_, HR.out.bel⟩⟩
     rw [HV.out]
     exact HR.out.row
    case measure => simp [intOf] <;> omega
  ·obtain rfl : k = n := by omega
   have hrow : ByteRow wr w.heap.size (smallP l) := by
    have := HR.out.row
    rw [List.take_of_length_le (by rw [HL.out]; exact Nat.le_refl _), List.drop_of_length_le (by rw [HL.out]; exact Nat.le_refl _), List.append_nil] at this
    exact this
   have hback := run_convert_bytes_back (P := Tryz.prog) wr 62 9 5 ⟨w.heap.size, 0, none⟩ C (smallP l) Tryz.underlying62 Tryz.underlying5 Tryz.underlying9 hrow.cells
   rw [smallP_len, HL.out, ← HZ.out] at hback
   clear hrow hsz
   go_wp2
   go_ret
   exact ⟨rfl, HR.out.bel⟩
set_option maxRecDepth 100000 in
theorem mlower_any (l : List UInt8) (w : World) (hl : l.length ≤ 1000000000) :
  Calls Tryz.prog 79 #[.string (ba l)] w (StrB w (smallP l)) := by
 have hcv := fun (W : World) (S : ByteArray) => run_bytes_of_string (P := Tryz.prog) W 9 62 5 S Tryz.underlying9 Tryz.underlying62 Tryz.underlying5
 have HR0 := Lib.hid (fun (cap m : Nat) (hm : l.length ≤ m) => ByteRow.of_string w l cap 5 m hm)
 obtain ⟨n, hn⟩ : ∃ n, l.length = n := ⟨_, rfl⟩
 have HL := Lib.hid hn
 obtain ⟨s, hs⟩ : ∃ s, ba l = s := ⟨_, rfl⟩
 have HS := Lib.hid hs
 have HZ := Lib.hid (show s.size = n by rw [← hs, ba_size, hn])
 have hsz : (s.size : Int) = n := by rw [HZ.out]
 rw [hs]
 rw [hn] at hl
 clear hs hn
 rw [HS.out] at HR0
 go_enter Tryz.func79, Tryz.ntmps79
 go_wp2
 obtain ⟨C, hC⟩ : ∃ C, grownCap w s.size 0 5 = C := ⟨_, rfl⟩
 have HCN := Lib.hid (show l.length ≤ (bytesRow s C).size by rw [bytesRow_size s C (by rw [← hC]; have := grownCap_ge w s.size 0 5; omega), ← hC, HL.out]; have := grownCap_ge w s.size 0 5; omega)
 rw [hC]
 clear hC hcv
 go_loopw [10] (fun i wr => ∃ k : Nat, k ≤ n ∧ i = .int .i64 (k : Int) ∧ Hid (SmRel w l k wr)) (fun i _ => n - (intOf i).toNat)
 case atStart =>
  refine ⟨0, Nat.zero_le _, rfl, Lib.hid ⟨?_, (Below.refl _ _).drew.alloc (Nat.le_refl _) _⟩⟩
  rw [show smallP (l.take 0) ++ l.drop 0 = l from rfl]
  exact (HR0.out C _ HCN.out).drew
 case round =>
  obtain ⟨k, hk, rfl, HR⟩ := hrel
  have hsz2 := HR.out.bel.size
  by_cases hlt : k < n
  ·have hk2 : (k : Int) < (n : Int) := by omega
   have hk3 : (k : Int) < (s.size : Int) := by omega
   have hk0 : (0 : Int) ≤ (k : Int) := by omega
   have hkl : k < l.length := by rw [HL.out]; exact hlt
   have hks : k < (smallP (l.take k) ++ l.drop k).length := by rw [sm_len]; exact hkl
   have hcell := HR.out.row.cell hks
   have hfree := HR.out.row.free hks
   rw [sm_get hkl hks] at hcell
   have HST := Lib.hid (sm_step hkl)
   have HSA := Lib.hid (sm_same hkl)
   have HSET := Lib.hid (HR.out.row.set hks (smallB l[k]))
   obtain ⟨c, hc⟩ : ∃ c, l[k] = c := ⟨_, rfl⟩
   rw [hc] at hcell HST HSA HSET
   have HY := Lib.hid (smallB_yes (c := c))
   have HNO := Lib.hid (smallB_no (c := c))
   obtain ⟨x, hx⟩ : ∃ x : Int, (c.toNat : Int) = x := ⟨_, rfl⟩
   rw [hx] at hcell HY HNO
   have hx0 : 0 ≤ x := by omega
   have hx1 : x ≤ 255 := by have := c.toNat_lt; omega
   have HX := Lib.hid hx
   clear hc hkl hks hx
   by_cases e1 : 65 ≤ x
   ·by_cases e2 : x ≤ 90
    ·have g1 : decide (65 ≤ x) = true := decide_eq_true e1
     have g2 : decide (x ≤ 90) = true := decide_eq_true e2
     have HV := Lib.hid (show (smallB c).toNat = x + 32 by rw [HY.out ⟨e1, e2⟩]; have := HX.out; have := c.toNat_lt; simp; omega)
     go_wp2
     go_roundw
     case rel =>
      refine ⟨k + 1, by omega, by go_num, Lib.hid ⟨?_, HR.out.bel.setCell (Nat.le_refl _) _⟩⟩
      rw [HST.out]
      have := HSET.out
      rw [HV.out] at this
      exact this
     case measure => simp [intOf] <;> omega
    ·have g1 : decide (65 ≤ x) = true := decide_eq_true e1
     have g2 : decide (x ≤ 90) = false := decide_eq_false e2
     have HV := Lib.hid (HSA.out (HNO.out fun h => e2 h.2))
     clear hfree
     go_wp2
     go_roundw
     case rel =>
      refine ⟨k + 1, by omega, by go_num, Lib.hid ⟨?_, HR.out.bel⟩⟩
      rw [HV.out]
      exact HR.out.row
     case measure => simp [intOf] <;> omega
   ·have g1 : decide (65 ≤ x) = false := decide_eq_false e1
    have HV := Lib.hid (HSA.out (HNO.out fun h => e1 h.1))
    clear hfree
    go_wp2
    go_roundw
    case rel =>
     refine ⟨k + 1, by omega, by go_num, Lib.hid ⟨?_, HR.out.bel⟩⟩
     rw [HV.out]
     exact HR.out.row
    case measure => simp [intOf] <;> omega
  ·obtain rfl : k = n := by omega
   have hrow : ByteRow wr w.heap.size (smallP l) := by
    have := HR.out.row
    rw [List.take_of_length_le (by rw [HL.out]; exact Nat.le_refl _), List.drop_of_length_le (by rw [HL.out]; exact Nat.le_refl _), List.append_nil] at this
    exact this
   have hback := run_convert_bytes_back (P := Tryz.prog) wr 62 9 5 ⟨w.heap.size, 0, none⟩ C (smallP l) Tryz.underlying62 Tryz.underlying5 Tryz.underlying9 hrow.cells
   rw [smallP_len, HL.out, ← HZ.out] at hback
   clear hrow hsz
   go_wp2
   go_ret
   exact ⟨rfl, HR.out.bel⟩
end Go.Proofs.YthidbmeaccpjdaaGreatDoor
section
namespace Go.Proofs.YthidbmeaccpjdaaGreatDoor
open Go.RowKit
set_option linter.unusedVariables false
def RowB (w : World) (b : Nat) (l : List UInt8) : Prop := ∃ T, w.heap[b]? = some (.cells (Lib.byteCells l).toArray T (0, 0))
section
variable {w w' : World} {b : Nat} {l : List UInt8}
theorem RowB.lt (h : RowB w b l) : b < w.heap.size := by
 obtain ⟨T, h1⟩ := h
 exact heap_lt h1
theorem RowB.bytes (h : RowB w b l) : ByteRow w b l := by
 obtain ⟨T, h1⟩ := h
 exact ⟨_, T, _, h1, fun j hj => by simp [Lib.byteCells, hj], .inr rfl⟩
theorem RowB.set (h : RowB w b l) {k : Nat} (c : UInt8) : RowB (w.setCell ⟨b, k, none⟩ (.int .u8 (c.toNat : Int))) b (l.set k c) := by
 obtain ⟨T, h1⟩ := h
 refine ⟨T, ?_⟩
 rw [setCell_eq_setRow w b k _ T _ _ h1]
 have h2 := setRow_heap w b _ ((Lib.byteCells l).toArray.setIfInBounds k (.int .u8 (c.toNat : Int))) T _ h1
 rw [h2]
 congr 2
 unfold Lib.byteCells
 simp [List.map_set]
theorem RowB.copy (h : RowB w b l) {off : Nat} (cs : List UInt8) {T : TypeId} {cur : Array Value} (hc : w.heap[b]? = some (.cells cur T (0, 0))) : RowB (w.setRow b (cur.toList.take off ++ (Lib.byteCells cs ++ cur.toList.drop (off + (Lib.byteCells cs).length))).toArray) b (l.take off ++ (cs ++ l.drop (off + cs.length))) := by
 obtain ⟨T', h1⟩ := h
 have e : cur = (Lib.byteCells l).toArray := by
  rw [hc] at h1
  injection h1 with h1
  injection h1
 refine ⟨T, ?_⟩
 rw [setRow_heap w b cur _ T _ hc, e]
 congr 2
 unfold Lib.byteCells
 simp
theorem RowB.made (W : World) (m : Nat) (T : TypeId) : RowB (W.alloc (.cells (madeCells #[.int .u8 0] m) T)) W.heap.size (List.replicate m 0) := by
 refine ⟨T, ?_⟩
 show (W.heap.push _)[W.heap.size]? = _
 rw [Array.getElem?_push_size]
 congr 2
 unfold Lib.byteCells
 rw [List.map_replicate]
 apply Array.ext
 ·simp [madeCells]
 ·intro i h1 h2
  simp [madeCells, Nat.mod_one]
end
theorem str_fin0 {w w' : World} {l : List UInt8} {t : ByteArray} (ht : t = ba l) (hb : Below w.heap.size w w') : StrB w l (.returned (.string t)) w' := by
 subst ht
 exact ⟨rfl, hb⟩
def CtRel (l : List UInt8) (k : Nat) (z : Int) (any : Bool) : Prop := z = (l.length : Int) + (nEsc (l.take k) : Int) ∧ any = decide (nEsc (l.take k) ≠ 0)
theorem CtRel.same {l : List UInt8} {k : Nat} {z : Int} {any : Bool} (hk : k < l.length) (h : ¬ (l[k] = 92 ∨ l[k] = 34)) (hr : CtRel l k z any) : CtRel l (k + 1) z any := by
 unfold CtRel at hr ⊢
 rw [nEsc_take hk, if_neg h]
 exact hr
theorem CtRel.more {l : List UInt8} {k : Nat} {z : Int} {any : Bool} (hk : k < l.length) (h : l[k] = 92 ∨ l[k] = 34) (hr : CtRel l k z any) : CtRel l (k + 1) (z + 1) true := by
 unfold CtRel at hr ⊢
 rw [nEsc_take hk, if_pos h]
 refine ⟨by omega, ?_⟩
 rw [decide_eq_true (by omega)]
theorem ReplAt.cells {B : Nat} {w : World} {R : Nat} {f : Nat → Value} {p q s c1 c2 c3 : Nat} (h : ReplAt B w R f p q s c1 c2 c3) :
  w.cell? ⟨R, 34, none⟩ = some (.slice (some ⟨p, 0, none⟩) 2 c1) ∧ w.cell? ⟨R, 92, none⟩ = some (.slice (some ⟨q, 0, none⟩) 2 c2) ∧ ∀ j, j < 256 → j ≠ 34 → j ≠ 92 → w.cell? ⟨R, j, none⟩ = some (.slice none 0 0) := by
 refine ⟨?_, ?_, fun j hj h1 h2 => ?_⟩
 ·rw [h.row.cell (by omega), h.f34]
 ·rw [h.row.cell (by omega), h.f92]
 ·rw [h.row.cell (by omega), h.other j hj h1 h2]
end Go.Proofs.YthidbmeaccpjdaaGreatDoor
end
namespace Go.Proofs.YthidbmeaccpjdaaGreatDoor
open Go.RowKit
set_option linter.unusedVariables false
set_option maxHeartbeats 4000000


end Go.Proofs.YthidbmeaccpjdaaGreatDoor
