/- Layer 15: the contract of small. Layer 15: the contracts of sign, breaks, behind, tags and named (printed by gen_deca.py). Layer 15: the contract of tag (printed by gen_decb.py). Layer 15: the contract of digits. -/
import Derived.Test.YthidbmeaccpjdaaGreatDoorM02
import Derived.Test.YthidbmeaccpjdaaGreatDoorM22
import Derived.Test.YthidbmeaccpjdaaGreatDoorM08
section
namespace Go.Proofs.YthidbmeaccpjdaaGreatDoor
open Go.RowKit
set_option linter.unusedVariables false
set_option maxRecDepth 100000 in
set_option maxHeartbeats 4000000 in
theorem dcsmall_any (l : List UInt8) (w : World) (hl : l.length ≤ 1000000000) :
  Calls Tryz.prog 115 #[.string (ba l)] w (StrB w (smallP l)) := by
 have hcv := fun (W : World) (S : ByteArray) => run_bytes_of_string (P := Tryz.prog) W 9 62 5 S Tryz.underlying9 Tryz.underlying62 Tryz.underlying5
 have HR0 := Lib.hid (fun (cap m : Nat) (hm : l.length ≤ m) => ByteRow.of_string w l cap 5 m hm)
 obtain ⟨n, hn⟩ : ∃ n, l.length = n := ⟨_, rfl⟩
 have HL := Lib.hid hn
 obtain ⟨s, hs⟩ : ∃ s, ba l = s := ⟨_, rfl⟩
 have HS := Lib.hid hs
 have HZ := Lib.hid (show s.size = n by rw [← hs, ba_size, hn])
 have hsz : (s.size : Int) = n := by rw [HZ.out]
 rw [hs]
 rw [hn] at hl
 clear hs hn
 rw [HS.out] at HR0
 go_enter Tryz.func115, Tryz.ntmps115
 go_wp2
 obtain ⟨C, hC⟩ : ∃ C, grownCap w s.size 0 5 = C := ⟨_, rfl⟩
 have HCN := Lib.hid (show l.length ≤ (bytesRow s C).size by rw [bytesRow_size s C (by rw [← hC]; have := grownCap_ge w s.size 0 5; omega), ← hC, HL.out]; have := grownCap_ge w s.size 0 5; omega)
 rw [hC]
 clear hC hcv
 go_loopw [10] (fun i wr => ∃ k : Nat, k ≤ n ∧ i = .int .i64 (k : Int) ∧ Hid (SmRel w l k wr)) (fun i _ => n - (intOf i).toNat)
 case atStart =>
  refine ⟨0, Nat.zero_le _, rfl, Lib.hid ⟨?_, (Below.refl _ _).drew.alloc (Nat.le_refl _) _⟩⟩
  rw [show smallP (l.take 0) ++ l.drop 0 = l from rfl]
  exact (HR0.out C _ HCN.out).drew
 case round =>
  obtain ⟨k, hk, rfl, HR⟩ := hrel
  have hsz2 := HR.out.bel.size
  by_cases hlt : k < n
  ·have hk2 : (k : Int) < (n : Int) := by omega
   have hk3 : (k : Int) < (s.size : Int) := by omega
   have hk0 : (0 : Int) ≤ (k : Int) := by omega
   have hkl : k < l.length := by rw [HL.out]; exact hlt
   have hks : k < (smallP (l.take k) ++ l.drop k).length := by rw [sm_len]; exact hkl
   have hcell := HR.out.row.cell hks
   have hfree := HR.out.row.free hks
   rw [sm_get hkl hks] at hcell
   have HST := Lib.hid (sm_step hkl)
   have HSA := Lib.hid (sm_same hkl)
   have HSET := Lib.hid (HR.out.row.set hks (smallB l[k]))
   obtain ⟨c, hc⟩ : ∃ c, l[k] = c := ⟨_, rfl⟩
   rw [hc] at hcell HST HSA HSET
   have HY := Lib.hid (smallB_yes (c := c))
   have HNO := Lib.hid (smallB_no (c := c))
   obtain ⟨x, hx⟩ : ∃ x : Int, (c.toNat : Int) = x := ⟨_, rfl⟩
   rw [hx] at hcell HY HNO
   have hx0 : 0 ≤ x := by omega
   have hx1 : x ≤ 255 := by have := c.toNat_lt; omega
   have HX := Lib.hid hx
   clear hc hkl hks hx
   by_cases e1 : 65 ≤ x
   ·by_cases e2 : x ≤ 90
    ·have g1 : decide (65 ≤ x) = true := decide_eq_true e1
     have g2 : decide (x ≤ 90) = true := decide_eq_true e2
     have HV := Lib.hid (show (smallB c).toNat = x + 32 by rw [HY.out ⟨e1, e2⟩]; have := HX.out; have := c.toNat_lt; simp; omega)
     go_wp2
     go_roundw
     case rel =>
      refine ⟨k + 1, by omega, by go_num, Lib.hid ⟨?_, HR.out.bel.setCell (Nat.le_refl _) _⟩⟩
      rw [HST.out]
      have := HSET.out
      rw [HV.out] at this
      exact this
     case measure => simp [intOf] <;> omega
    ·have g1 : decide (65 ≤ x) = true := decide_eq_true e1
     have g2 : decide (x ≤ 90) = false := decide_eq_false e2
     have HV := Lib.hid (HSA.out (HNO.out fun h => e2 h.2))
     clear hfree
     go_wp2
     go_roundw
     case rel =>
      refine ⟨k + 1, by omega, by go_num, Lib.hid ⟨?_, HR.out.bel⟩⟩
      rw [HV.out]
      exact HR.out.row
     case measure => simp [intOf] <;> omega
   ·have g1 : decide (65 ≤ x) = false := decide_eq_false e1
    have HV := Lib.hid (HSA.out (HNO.out fun h => e1 h.1))
    clear hfree
    go_wp2
    go_roundw
    case rel =>
     refine ⟨k + 1, by omega, by go_num, Lib.hid ⟨?_, HR.out.bel⟩⟩
     rw [HV.out]
     exact HR.out.row
    case measure => simp [intOf] <;> omega
  ·obtain rfl : k = n := by omega
   have hrow : ByteRow wr w.heap.size (smallP l) := by
    have := HR.out.row
    rw [List.take_of_length_le (by rw [HL.out]; exact Nat.le_refl _), List.drop_of_length_le (by rw [HL.out]; exact Nat.le_refl _), List.append_nil] at this
    exact this
   have hback := run_convert_bytes_back (P := Tryz.prog) wr 62 9 5 ⟨w.heap.size, 0, none⟩ C (smallP l) Tryz.underlying62 Tryz.underlying5 Tryz.underlying9 hrow.cells
   rw [smallP_len, HL.out, ← HZ.out] at hback
   clear hrow hsz
   go_wp2
   go_ret
   exact ⟨rfl, HR.out.bel⟩
end Go.Proofs.YthidbmeaccpjdaaGreatDoor
end
section
namespace Go.Proofs.YthidbmeaccpjdaaGreatDoor
open Go.RowKit
set_option linter.unusedVariables false
theorem sign_any (c : UInt8) (w : World) : Calls Tryz.prog 109 #[.int .u8 (c.toNat : Int)] w fun e w' => e = .returned (.bool (signB c)) ∧ w' = w := by
 obtain ⟨x, hx⟩ : ∃ x : Int, (c.toNat : Int) = x := ⟨_, rfl⟩
 have HF := Lib.hid (fun b => letterV hx (b := b))
 rw [hx]
 clear hx
 go_enter Tryz.func109, Tryz.ntmps109
 go_wp2
 all_goals
  go_ret
  refine ⟨?_, rfl⟩
  show Ending.returned (Value.bool _) = Ending.returned (Value.bool (letterB c))
  rw [HF.out _ rfl]
  congr 2
  rw [Bool.eq_iff_iff]
  simp only [Bool.or_eq_true, Bool.and_eq_true, decide_eq_true_iff]
  first | omega | (simp; omega)
theorem breaks_any (t : List UInt8) (w : World) : Calls Tryz.prog 113 #[.string (ba t)] w fun e w' => e = .returned (.bool (decide (t ∈ breakNames))) ∧ w' = w := by
 by_cases h0 : t = [98, 114]
 ·have HF := Lib.hid (show decide (t ∈ breakNames) = true by rw [h0]; decide)
  have g0 : ((ba t).toList == [98, 114]) = true := by rw [ba_toList, h0]; decide
  clear h0
  go_enter Tryz.func113, Tryz.ntmps113
  go_wp2
  go_ret
  exact ⟨by rw [HF.out]; rfl, rfl⟩
 have g0 : ((ba t).toList == [98, 114]) = false := by rw [ba_toList]; simpa using h0
 by_cases h1 : t = [112]
 ·have HF := Lib.hid (show decide (t ∈ breakNames) = true by rw [h1]; decide)
  have g1 : ((ba t).toList == [112]) = true := by rw [ba_toList, h1]; decide
  clear h0 h1
  go_enter Tryz.func113, Tryz.ntmps113
  go_wp2
  go_ret
  exact ⟨by rw [HF.out]; rfl, rfl⟩
 have g1 : ((ba t).toList == [112]) = false := by rw [ba_toList]; simpa using h1
 by_cases h2 : t = [100, 105, 118]
 ·have HF := Lib.hid (show decide (t ∈ breakNames) = true by rw [h2]; decide)
  have g2 : ((ba t).toList == [100, 105, 118]) = true := by rw [ba_toList, h2]; decide
  clear h0 h1 h2
  go_enter Tryz.func113, Tryz.ntmps113
  go_wp2
  go_ret
  exact ⟨by rw [HF.out]; rfl, rfl⟩
 have g2 : ((ba t).toList == [100, 105, 118]) = false := by rw [ba_toList]; simpa using h2
 by_cases h3 : t = [116, 114]
 ·have HF := Lib.hid (show decide (t ∈ breakNames) = true by rw [h3]; decide)
  have g3 : ((ba t).toList == [116, 114]) = true := by rw [ba_toList, h3]; decide
  clear h0 h1 h2 h3
  go_enter Tryz.func113, Tryz.ntmps113
  go_wp2
  go_ret
  exact ⟨by rw [HF.out]; rfl, rfl⟩
 have g3 : ((ba t).toList == [116, 114]) = false := by rw [ba_toList]; simpa using h3
 by_cases h4 : t = [108, 105]
 ·have HF := Lib.hid (show decide (t ∈ breakNames) = true by rw [h4]; decide)
  have g4 : ((ba t).toList == [108, 105]) = true := by rw [ba_toList, h4]; decide
  clear h0 h1 h2 h3 h4
  go_enter Tryz.func113, Tryz.ntmps113
  go_wp2
  go_ret
  exact ⟨by rw [HF.out]; rfl, rfl⟩
 have g4 : ((ba t).toList == [108, 105]) = false := by rw [ba_toList]; simpa using h4
 by_cases h5 : t = [104, 49]
 ·have HF := Lib.hid (show decide (t ∈ breakNames) = true by rw [h5]; decide)
  have g5 : ((ba t).toList == [104, 49]) = true := by rw [ba_toList, h5]; decide
  clear h0 h1 h2 h3 h4 h5
  go_enter Tryz.func113, Tryz.ntmps113
  go_wp2
  go_ret
  exact ⟨by rw [HF.out]; rfl, rfl⟩
 have g5 : ((ba t).toList == [104, 49]) = false := by rw [ba_toList]; simpa using h5
 by_cases h6 : t = [104, 50]
 ·have HF := Lib.hid (show decide (t ∈ breakNames) = true by rw [h6]; decide)
  have g6 : ((ba t).toList == [104, 50]) = true := by rw [ba_toList, h6]; decide
  clear h0 h1 h2 h3 h4 h5 h6
  go_enter Tryz.func113, Tryz.ntmps113
  go_wp2
  go_ret
  exact ⟨by rw [HF.out]; rfl, rfl⟩
 have g6 : ((ba t).toList == [104, 50]) = false := by rw [ba_toList]; simpa using h6
 by_cases h7 : t = [104, 51]
 ·have HF := Lib.hid (show decide (t ∈ breakNames) = true by rw [h7]; decide)
  have g7 : ((ba t).toList == [104, 51]) = true := by rw [ba_toList, h7]; decide
  clear h0 h1 h2 h3 h4 h5 h6 h7
  go_enter Tryz.func113, Tryz.ntmps113
  go_wp2
  go_ret
  exact ⟨by rw [HF.out]; rfl, rfl⟩
 have g7 : ((ba t).toList == [104, 51]) = false := by rw [ba_toList]; simpa using h7
 by_cases h8 : t = [104, 52]
 ·have HF := Lib.hid (show decide (t ∈ breakNames) = true by rw [h8]; decide)
  have g8 : ((ba t).toList == [104, 52]) = true := by rw [ba_toList, h8]; decide
  clear h0 h1 h2 h3 h4 h5 h6 h7 h8
  go_enter Tryz.func113, Tryz.ntmps113
  go_wp2
  go_ret
  exact ⟨by rw [HF.out]; rfl, rfl⟩
 have g8 : ((ba t).toList == [104, 52]) = false := by rw [ba_toList]; simpa using h8
 by_cases h9 : t = [104, 53]
 ·have HF := Lib.hid (show decide (t ∈ breakNames) = true by rw [h9]; decide)
  have g9 : ((ba t).toList == [104, 53]) = true := by rw [ba_toList, h9]; decide
  clear h0 h1 h2 h3 h4 h5 h6 h7 h8 h9
  go_enter Tryz.func113, Tryz.ntmps113
  go_wp2
  go_ret
  exact ⟨by rw [HF.out]; rfl, rfl⟩
 have g9 : ((ba t).toList == [104, 53]) = false := by rw [ba_toList]; simpa using h9
 by_cases h10 : t = [104, 54]
 ·have HF := Lib.hid (show decide (t ∈ breakNames) = true by rw [h10]; decide)
  have g10 : ((ba t).toList == [104, 54]) = true := by rw [ba_toList, h10]; decide
  clear h0 h1 h2 h3 h4 h5 h6 h7 h8 h9 h10
  go_enter Tryz.func113, Tryz.ntmps113
  go_wp2
  go_ret
  exact ⟨by rw [HF.out]; rfl, rfl⟩
 have g10 : ((ba t).toList == [104, 54]) = false := by rw [ba_toList]; simpa using h10
 have HF := Lib.hid (show decide (t ∈ breakNames) = false from decide_eq_false (by unfold breakNames; simp only [List.mem_cons, List.not_mem_nil, or_false, not_or]; exact ⟨h0, h1, h2, h3, h4, h5, h6, h7, h8, h9, h10⟩))
 clear h0 h1 h2 h3 h4 h5 h6 h7 h8 h9 h10
 go_enter Tryz.func113, Tryz.ntmps113
 go_wp2
 go_ret
 exact ⟨by rw [HF.out]; rfl, rfl⟩
theorem behind_any (m s : List UInt8) (w : World) (hs : s.length ≤ 1000000000) (hT : Tabs w) :
  Calls Tryz.prog 111 #[.string (ba s), .string (ba m)] w (StrB w (behindP m s)) := by
 obtain ⟨mx, hm⟩ := hT.max
 have HC := Lib.hid (Tryz.strings_Cut (ba s) (ba m) mx w (by rw [ba_size]; omega) hm)
 clear hm hT
 go_enter Tryz.func111, Tryz.ntmps111
 go_wp2_with fail
 refine HC.out.mono ?_
 rintro e w2 ⟨rfl, hw⟩
 obtain ⟨nn, rfl⟩ := hw
 go_wp2
 go_ret
 exact ⟨rfl, below_drewN (Below.refl _ _) _⟩
theorem tags_two (c d : UInt8) (r : List UInt8) {X Y : Int} (hX : (c.toNat : Int) = X) (hY : (d.toNat : Int) = Y) : tagsB (c :: d :: r) = (decide (X = 60) && (decide (Y = 47) || decide (Y = 33) || decide (Y = 63) || (signB d && decide (57 < Y)))) := by
 have e : ∀ (x y : UInt8) {Z : Int}, (x.toNat : Int) = Z → decide (x = y) = decide (Z = (y.toNat : Int)) := fun x y Z h => by
  rw [Bool.eq_iff_iff, decide_eq_true_iff, decide_eq_true_iff, ← h]
  exact ⟨fun h => by rw [h], fun h => UInt8.toNat_inj.1 (by omega)⟩
 have e2 : decide (57 < d) = decide (57 < Y) := by
  rw [Bool.eq_iff_iff, decide_eq_true_iff, decide_eq_true_iff, UInt8.lt_iff_toNat_lt, ← hY]
  show (57 : Nat) < _ ↔ _
  omega
 show (decide (c = 60) && (decide (d = 47) || decide (d = 33) || decide (d = 63) || (signB d && decide (57 < d)))) = _
 rw [e c 60 hX, e d 47 hY, e d 33 hY, e d 63 hY, e2]
 rfl
set_option maxRecDepth 100000 in
set_option maxHeartbeats 4000000 in
theorem tags_any (l : List UInt8) (w : World) (hl : l.length ≤ 1000000000) :
  Calls Tryz.prog 52 #[.string (ba l)] w fun e w' => e = .returned (.bool (tagsB l)) ∧ w' = w := by
 by_cases h2 : l.length < 2
 ·have HF := Lib.hid (show tagsB l = false by match l, h2 with | [], _ => rfl | [_], _ => rfl | _ :: _ :: _, h => simp at h; omega)
  obtain ⟨n, hn⟩ : ∃ n, l.length = n := ⟨_, rfl⟩
  have HL := Lib.hid hn
  obtain ⟨s, hs⟩ : ∃ s, ba l = s := ⟨_, rfl⟩
  have HS := Lib.hid hs
  have HZ := Lib.hid (show s.size = n by rw [← hs, ba_size, hn])
  have hsz : (s.size : Int) = n := by rw [HZ.out]
  rw [hs]
  rw [hn] at hl h2
  clear hs hn
  have g1 : decide ((1 : Int) < (n : Int)) = false := decide_eq_false (by omega)
  go_enter Tryz.func52, Tryz.ntmps52
  go_wp2
  go_ret
  exact ⟨by rw [HF.out]; rfl, rfl⟩
 ·obtain ⟨c, d, r, rfl⟩ : ∃ c d r, l = c :: d :: r := by match l, h2 with | [], h => exact absurd (by simp) h | [_], h => exact absurd (by simp) h | c :: d :: r, _ => exact ⟨c, d, r, rfl⟩
  obtain ⟨X, hX⟩ : ∃ x : Int, (c.toNat : Int) = x := ⟨_, rfl⟩
  obtain ⟨Y, hY⟩ : ∃ x : Int, (d.toNat : Int) = x := ⟨_, rfl⟩
  have HTT := Lib.hid (tags_two c d r hX hY)
  have HSI := Lib.hid (show ∀ W, Calls Tryz.prog 109 #[.int .u8 Y] W fun e w' => e = .returned (.bool (signB d)) ∧ w' = W from fun W => by rw [← hY]; exact sign_any d W)
  have hgi : ∃ (h0 : 0 < (ba (c :: d :: r)).size) (h1 : 1 < (ba (c :: d :: r)).size), (((ba (c :: d :: r))[0]'h0).toNat : Int) = X ∧ (((ba (c :: d :: r))[1]'h1).toNat : Int) = Y := ⟨by rw [ba_size]; simp, by rw [ba_size]; simp, hX, hY⟩
  obtain ⟨o, ho⟩ : ∃ o, tagsB (c :: d :: r) = o := ⟨_, rfl⟩
  rw [ho] at HTT ⊢
  clear ho hX hY
  obtain ⟨n, hn⟩ : ∃ n, (c :: d :: r).length = n := ⟨_, rfl⟩
  obtain ⟨s, hs⟩ : ∃ s, ba (c :: d :: r) = s := ⟨_, rfl⟩
  have hsz : (s.size : Int) = n := by rw [← hs, ba_size, hn]
  rw [hs] at hgi ⊢
  rw [hn] at h2 hl
  clear hs hn
  obtain ⟨h0, h1, hg0, hg1⟩ := hgi
  have g1 : decide ((1 : Int) < (n : Int)) = true := decide_eq_true (by omega)
  have h1i : (1 : Int) < (n : Int) := by omega
  by_cases e0 : X = 60
  ·have k0 : (X == 60) = true := by rw [e0]; rfl
   by_cases e1 : Y = 47
   ·have k1 : (Y == 47) = true := by rw [e1]; rfl
    have HF := Lib.hid (show o = true by rw [HTT.out]; simp [e0, e1])
    clear e0 e1
    go_enter Tryz.func52, Tryz.ntmps52
    go_wp2
    go_ret
    exact ⟨by rw [HF.out]; rfl, rfl⟩
   have k1 : (Y == 47) = false := by simpa using e1
   by_cases e2 : Y = 33
   ·have k2 : (Y == 33) = true := by rw [e2]; rfl
    have HF := Lib.hid (show o = true by rw [HTT.out]; simp [e0, e2])
    clear e0 e1 e2
    go_enter Tryz.func52, Tryz.ntmps52
    go_wp2
    go_ret
    exact ⟨by rw [HF.out]; rfl, rfl⟩
   have k2 : (Y == 33) = false := by simpa using e2
   by_cases e3 : Y = 63
   ·have k3 : (Y == 63) = true := by rw [e3]; rfl
    have HF := Lib.hid (show o = true by rw [HTT.out]; simp [e0, e3])
    clear e0 e1 e2 e3
    go_enter Tryz.func52, Tryz.ntmps52
    go_wp2
    go_ret
    exact ⟨by rw [HF.out]; rfl, rfl⟩
   have k3 : (Y == 63) = false := by simpa using e3
   have HF := Lib.hid (show o = (signB d && decide (57 < Y)) by rw [HTT.out]; simp [e0, e1, e2, e3])
   clear e0 e1 e2 e3 HTT
   cases hsg : signB d with
   | false =>
    rw [hsg] at HF
    simp only [hsg] at HSI
    clear hsg
    go_enter Tryz.func52, Tryz.ntmps52
    go_wp2_with fail
    refine (HSI.out _).mono ?_
    rintro e w2 ⟨rfl, rfl⟩
    go_wp2
    go_ret
    exact ⟨by rw [HF.out]; rfl, rfl⟩
   | true =>
    rw [hsg] at HF
    simp only [hsg] at HSI
    clear hsg
    obtain ⟨y, hy⟩ : ∃ y, decide (57 < Y) = y := ⟨_, rfl⟩
    rw [hy] at HF
    go_enter Tryz.func52, Tryz.ntmps52
    go_wp2_with fail
    refine (HSI.out _).mono ?_
    rintro e w2 ⟨rfl, rfl⟩
    go_wp2
    go_ret
    exact ⟨by rw [HF.out]; rfl, rfl⟩
  ·have k0 : (X == 60) = false := by simpa using e0
   have HF := Lib.hid (show o = false by rw [HTT.out]; simp [e0])
   clear e0
   go_enter Tryz.func52, Tryz.ntmps52
   go_wp2
   go_ret
   exact ⟨by rw [HF.out]; rfl, rfl⟩
def NmPost (w : World) (q : List UInt8 × Bool) (e : Ending) (w' : World) : Prop := e = .returned (.tuple #[.string (ba q.1), .bool q.2]) ∧ Below w.heap.size w w'
theorem nameTag_eq (t : List UInt8) : nameTag t = (smallP ((if ([47] : List UInt8).isPrefixOf t = true then t.drop 1 else t).takeWhile signB), ([47] : List UInt8).isPrefixOf t) := by
 unfold nameTag
 match t with
 | [] => rfl
 | c :: r =>
  by_cases h : c = 47
  ·subst h
   rfl
  ·have : ([47] : List UInt8).isPrefixOf (c :: r) = false := by
    simp [List.isPrefixOf]
    exact fun e => h e.symm
   rw [this]
   show (if c = 47 then _ else _) = _
   rw [if_neg h]
   rfl
theorem take_while {p : UInt8 → Bool} : ∀ {l : List UInt8} {k : Nat}, k ≤ l.length → (l.take k).all p = true → (∀ h : k < l.length, p l[k] = false) → l.takeWhile p = l.take k
 | [], k, _, _, _ => by simp
 | c :: r, 0, _, _, h => by
  have := h (by simp)
  rw [List.takeWhile_cons_of_neg (by simpa using this)]
  rfl
 | c :: r, k + 1, hk, ha, h => by
  simp only [List.take_succ_cons, List.all_cons, Bool.and_eq_true] at ha
  rw [List.takeWhile_cons_of_pos ha.1, List.take_succ_cons, take_while (by simpa using hk) ha.2 (fun h' => h (by simpa using h'))]
set_option maxRecDepth 100000 in
set_option maxHeartbeats 4000000 in
theorem named_any (c : UInt8) (t : List UInt8) (w : World) (hl : t.length ≤ 1000000000) :
  Calls Tryz.prog 112 #[.string (ba (c :: t))] w (NmPost w (nameTag t)) := by
 have hx1 : (ba (c :: t)).extract 1 (ba (c :: t)).size = ba t := ba_drop _ _
 have h1i : (1 : Int) ≤ ((ba (c :: t)).size : Int) := by rw [ba_size]; simp; omega
 have HX1 := Lib.hid hx1
 have HC := Lib.hid (show ∀ W, Calls Tryz.prog 110 #[.string (ba t), .string ⟨#[47]⟩] W fun e w' => e = .returned (.tuple #[.string (ba (if ([47] : List UInt8).isPrefixOf t = true then t.drop 1 else t)), .bool (([47] : List UInt8).isPrefixOf t)]) ∧ w' = W from fun W => cutpre_any [47] t W)
 have HN := Lib.hid (nameTag_eq t)
 obtain ⟨u, hu⟩ : ∃ u, (if ([47] : List UInt8).isPrefixOf t = true then t.drop 1 else t) = u := ⟨_, rfl⟩
 have hul : u.length ≤ 1000000000 := by rw [← hu]; split; (rw [List.length_drop]; omega); exact hl
 obtain ⟨en, hen⟩ : ∃ b, ([47] : List UInt8).isPrefixOf t = b := ⟨_, rfl⟩
 rw [hu, hen] at HN
 simp only [hu] at HC
 simp only [hen] at HC
 obtain ⟨S, hS⟩ : ∃ S, ba (c :: t) = S := ⟨_, rfl⟩
 rw [hS] at hx1 h1i ⊢
 clear hu hen hS HX1
 obtain ⟨n, hnu⟩ : ∃ n, u.length = n := ⟨_, rfl⟩
 have HLu := Lib.hid hnu
 obtain ⟨s, hsu⟩ : ∃ s, ba u = s := ⟨_, rfl⟩
 have HSu := Lib.hid hsu
 have HZu := Lib.hid (show s.size = n by rw [← hsu, ba_size, hnu])
 have hszu : (s.size : Int) = n := by rw [HZu.out]
 rw [hnu] at hul
 clear hsu hnu
 have HSM := Lib.hid (fun k W => dcsmall_any (u.take k) W (by rw [List.length_take, HLu.out]; omega))
 unfold StrB at HSM
 have HEX := Lib.hid (show ∀ k, s.extract 0 k = ba (u.take k) from fun k => by rw [← HSu.out, ba_cut, List.drop_zero])
 go_enter Tryz.func112, Tryz.ntmps112
 go_wp2_with fail
 refine (HC.out _).mono ?_
 rintro e w2 ⟨rfl, rfl⟩
 rw [HSu.out]
 go_wp2
 go_loop [6] (fun x => ∃ k : Nat, k ≤ n ∧ x = .int .i64 (k : Int) ∧ Hid ((u.take k).all signB = true)) (fun x => n - (intOf x).toNat)
 case atStart => exact ⟨0, Nat.zero_le _, rfl, Lib.hid rfl⟩
 case round =>
  obtain ⟨k, hk, rfl, HR⟩ := hrel
  have hki : (k : Int) ≤ (n : Int) := by omega
  have hk00 : (0 : Int) ≤ (k : Int) := by omega
  have hexk := HEX.out k
  have HXK := Lib.hid hexk
  by_cases hlt : k < n
  ·have hk2u : (k : Int) < (n : Int) := by omega
   have hk0u : (0 : Int) ≤ (k : Int) := by omega
   have hksu : k < s.size := by rw [HZu.out]; omega
   have hklu : k < u.length := by rw [HLu.out]; omega
   have hgetu : s[k] = u[k] := by
    have h := HSu.out
    subst h
    rfl
   have HST := Lib.hid (fun (h : signB (u[k]) = false) => take_while (p := signB) (by omega) HR.out (fun _ => h))
   have HSN := Lib.hid (fun (h : signB (u[k]) = true) => (show (u.take (k + 1)).all signB = true by rw [List.take_succ_eq_append_getElem hklu, List.all_append, HR.out]; simpa using h))
   obtain ⟨d, hcu⟩ : ∃ c, u[k] = c := ⟨_, rfl⟩
   rw [hcu] at hgetu HST HSN
   obtain ⟨X, hxu⟩ : ∃ x : Int, (d.toNat : Int) = x := ⟨_, rfl⟩
   have hgiu : ((s[k]).toNat : Int) = X := by rw [hgetu]; exact hxu
   have HXu := Lib.hid hxu
   have hx0u : 0 ≤ X := by omega
   have hx1u : X ≤ 255 := by have := d.toNat_lt; omega
   clear hcu hklu hgetu hxu
   have HSI := Lib.hid (show ∀ W, Calls Tryz.prog 109 #[.int .u8 X] W fun e w' => e = .returned (.bool (signB d)) ∧ w' = W from fun W => by rw [← HXu.out]; exact sign_any d W)
   cases hsg : signB d with
   | true =>
    simp only [hsg] at HSI
    have HNX := Lib.hid (HSN.out hsg)
    clear hsg HST HSN hexk
    go_wp2_with fail
    refine (HSI.out _).mono ?_
    rintro e w2 ⟨rfl, hw⟩
    have hw2 := hw.symm
    subst hw2
    clear hw
    go_wp2
    go_round
    case rel => exact ⟨k + 1, by omega, by go_num, HNX⟩
    case measure => simp [intOf] <;> omega
   | false =>
    simp only [hsg] at HSI
    have HF := Lib.hid (show nameTag t = (smallP (u.take k), en) by rw [HN.out, HST.out hsg])
    clear hsg HST HSN
    go_wp2_with fail
    refine (HSI.out _).mono ?_
    rintro e w2 ⟨rfl, hw⟩
    have hw2 := hw.symm
    subst hw2
    clear hw
    go_wp2_with fail
    refine (HSM.out k _).mono ?_
    rintro e w3 ⟨rfl, hb3⟩
    have HB3 := Lib.hid hb3
    clear hb3
    go_wp2
    go_ret2
    unfold NmPost
    rw [HF.out]
    exact ⟨rfl, HB3.out⟩
  ·obtain rfl : k = n := by omega
   have HF := Lib.hid (show nameTag t = (smallP (u.take k), en) by rw [HN.out, take_while (p := signB) (by rw [HLu.out]; exact Nat.le_refl _) HR.out (fun h => absurd h (by rw [HLu.out]; omega))])
   go_wp2_with fail
   refine (HSM.out k _).mono ?_
   rintro e w3 ⟨rfl, hb3⟩
   have HB3 := Lib.hid hb3
   clear hb3
   go_wp2
   go_ret2
   unfold NmPost
   rw [HF.out]
   exact ⟨rfl, HB3.out⟩
end Go.Proofs.YthidbmeaccpjdaaGreatDoor
end
section
namespace Go.Proofs.YthidbmeaccpjdaaGreatDoor
open Go.RowKit
set_option linter.unusedVariables false
theorem sindex_any (s sub : List UInt8) (w : World) (hs : s.length ≤ 1000000000) (hT : Tabs w) :
  Calls Tryz.prog 114 #[.string (ba s), .string (ba sub)] w fun e w' => e = .returned (.int .i64 (Lib.index s sub)) ∧ w' = w := by
 obtain ⟨m, hm⟩ := hT.max
 exact Tryz.strings_Index (ba s) (ba sub) m w (by rw [ba_size]; omega) hm
theorem behind_len (m s : List UInt8) : (behindP m s).length ≤ s.length := by
 unfold behindP Lib.cut
 split
 ·show (s.drop _).length ≤ _
  rw [List.length_drop]; omega
 ·exact Nat.zero_le _
def TgPost (w : World) (q : List UInt8 × List UInt8) (e : Ending) (w' : World) : Prop := e = .returned (.tuple #[.string (ba q.1), .string (ba q.2)]) ∧ Below w.heap.size w w'
theorem tg_fin {w w' : World} {q : List UInt8 × List UInt8} {a b : List UInt8} {s t : ByteArray} (h : q = (a, b)) (hs : s = ba a) (ht : t = ba b) (hb : Below w.heap.size w w') : TgPost w q (.returned (.tuple #[.string s, .string t])) w' := by
 subst h hs ht
 exact ⟨rfl, hb⟩
theorem tagP_note {s : List UInt8} (h : ([60, 33, 45, 45] : List UInt8).isPrefixOf s = true) : tagP s = ([], behindP [45, 45, 62] (s.drop 4)) := by unfold tagP; rw [if_pos h]
theorem tagP_plain {c : UInt8} {t n r : List UInt8} {e : Bool} (h : ([60, 33, 45, 45] : List UInt8).isPrefixOf (c :: t) = false) (hq : nameTag t = (n, e)) (hr : behindP [62] (c :: t) = r) (he : e = true ∨ (n ≠ wScript ∧ n ≠ wStyle)) : tagP (c :: t) = (if n ∈ breakNames then [10] else [], r) := by
 unfold tagP
 rw [if_neg (by rw [h]; decide)]
 simp only [List.drop_succ_cons, List.drop_zero, hq, hr]
 rw [if_pos he]
theorem tagP_raw {c : UInt8} {t n r : List UInt8} {e : Bool} (h : ([60, 33, 45, 45] : List UInt8).isPrefixOf (c :: t) = false) (hq : nameTag t = (n, e)) (hr : behindP [62] (c :: t) = r) (he : ¬ (e = true ∨ (n ≠ wScript ∧ n ≠ wStyle))) :
  tagP (c :: t) = if Lib.index (smallP r) ([60, 47] ++ n) < 0 then (if n ∈ breakNames then [10] else [], []) else (if n ∈ breakNames then [10] else [], r.drop (Lib.index (smallP r) ([60, 47] ++ n)).toNat) := by
 unfold tagP
 rw [if_neg (by rw [h]; decide)]
 simp only [List.drop_succ_cons, List.drop_zero, hq, hr]
 rw [if_neg he]
set_option maxRecDepth 100000 in
set_option maxHeartbeats 4000000 in
theorem tag_any (c : UInt8) (t : List UInt8) (w : World) (hl : (c :: t).length ≤ 100000000) (hT : Tabs w) :
  Calls Tryz.prog 53 #[.string (ba (c :: t))] w (TgPost w (tagP (c :: t))) := by
 have HT := Lib.hid hT
 have hlt : t.length ≤ 100000000 := by simp at hl; omega
 have HC := Lib.hid (show ∀ W, Calls Tryz.prog 110 #[.string (ba (c :: t)), .string ⟨#[60, 33, 45, 45]⟩] W fun e w' => e = .returned (.tuple #[.string (ba (if ([60, 33, 45, 45] : List UInt8).isPrefixOf (c :: t) = true then (c :: t).drop 4 else (c :: t))), .bool (([60, 33, 45, 45] : List UInt8).isPrefixOf (c :: t))]) ∧ w' = W from fun W => cutpre_any [60, 33, 45, 45] (c :: t) W)
 have HB1 := Lib.hid (show ∀ W, Tabs W → Calls Tryz.prog 111 #[.string (ba ((c :: t).drop 4)), .string ⟨#[45, 45, 62]⟩] W (StrB W (behindP [45, 45, 62] ((c :: t).drop 4))) from fun W hW => behind_any [45, 45, 62] _ W (by rw [List.length_drop]; omega) hW)
 have HB2 := Lib.hid (show ∀ W, Tabs W → Calls Tryz.prog 111 #[.string (ba (c :: t)), .string ⟨#[62]⟩] W (StrB W (behindP [62] (c :: t))) from fun W hW => behind_any [62] _ W (by omega) hW)
 have HNA := Lib.hid (fun W => named_any c t W (by omega))
 unfold StrB at HB1 HB2
 unfold NmPost at HNA
 clear hT
 cases hp : ([60, 33, 45, 45] : List UInt8).isPrefixOf (c :: t) with
 | true =>
  have HF := Lib.hid (tagP_note hp)
  simp only [hp, if_true] at HC
  clear hp HB2 HNA
  obtain ⟨s, hs⟩ : ∃ s, ba (c :: t) = s := ⟨_, rfl⟩
  simp only [hs] at HC
  rw [hs]
  clear hs
  go_enter Tryz.func53, Tryz.ntmps53
  go_wp2_with fail
  refine (HC.out _).mono ?_
  rintro e w2 ⟨rfl, rfl⟩
  go_wp2_with fail
  refine (HB1.out _ HT.out).mono ?_
  rintro e w3 ⟨rfl, hb3⟩
  have HB3 := Lib.hid hb3
  clear hb3
  go_wp2
  go_ret2
  exact tg_fin HF.out rfl rfl HB3.out
 | false =>
  simp only [hp, Bool.false_eq_true, if_false] at HC
  obtain ⟨⟨n, en⟩, hq⟩ : ∃ q, nameTag t = q := ⟨_, rfl⟩
  obtain ⟨r, hr⟩ : ∃ r, behindP [62] (c :: t) = r := ⟨_, rfl⟩
  have HPL := Lib.hid (fun he => tagP_plain hp hq hr he)
  have HRW := Lib.hid (fun he => tagP_raw hp hq hr he)
  have hrl : r.length ≤ 100000000 := by rw [← hr]; exact Nat.le_trans (behind_len _ _) hl
  have HNL := Lib.hid (show n.length ≤ 100000000 by
   have h1 := nameTag_eq t
   rw [hq] at h1
   have h2 : n = _ := congrArg Prod.fst h1
   rw [h2, smallP_len]
   refine Nat.le_trans (List.takeWhile_prefix _).length_le ?_
   split; (rw [List.length_drop]; omega); exact hlt)
  simp only [hq] at HNA
  simp only [hr] at HB2
  obtain ⟨o, ho⟩ : ∃ o, tagP (c :: t) = o := ⟨_, rfl⟩
  simp only [ho] at HPL HRW
  rw [ho]
  have HBR := Lib.hid (fun W => breaks_any n W)
  obtain ⟨s, hs⟩ : ∃ s, ba (c :: t) = s := ⟨_, rfl⟩
  simp only [hs] at HC HB2 HNA
  rw [hs]
  clear hp hq hr ho hs HB1
  cases en with
  | true =>
   by_cases hm : n ∈ breakNames
   ·have HF := Lib.hid (show o = ([10], r) by rw [HPL.out (.inl rfl), if_pos hm])
    simp only [decide_eq_true hm] at HBR
    clear hm
    go_enter Tryz.func53, Tryz.ntmps53
    go_wp2_with fail
    refine (HC.out _).mono ?_
    rintro e w2 ⟨rfl, rfl⟩
    go_wp2_with fail
    refine (HNA.out _).mono ?_
    rintro e w3 ⟨rfl, hb3⟩
    have HB3 := Lib.hid hb3
    clear hb3
    go_wp2_with fail
    refine (HB2.out _ (HT.out.below HB3.out)).mono ?_
    rintro e w4 ⟨rfl, hb4⟩
    have HB4 := Lib.hid (HB3.out.trans (hb4.mono HB3.out.size))
    clear hb4
    go_wp2_with fail
    refine (HBR.out _).mono ?_
    rintro e w5 ⟨rfl, hw⟩
    have hw2 := hw.symm
    subst hw2
    clear hw
    go_wp2
    go_ret2
    exact tg_fin HF.out rfl rfl HB4.out
   ·have HF := Lib.hid (show o = ([], r) by rw [HPL.out (.inl rfl), if_neg hm])
    simp only [decide_eq_false hm] at HBR
    clear hm
    go_enter Tryz.func53, Tryz.ntmps53
    go_wp2_with fail
    refine (HC.out _).mono ?_
    rintro e w2 ⟨rfl, rfl⟩
    go_wp2_with fail
    refine (HNA.out _).mono ?_
    rintro e w3 ⟨rfl, hb3⟩
    have HB3 := Lib.hid hb3
    clear hb3
    go_wp2_with fail
    refine (HB2.out _ (HT.out.below HB3.out)).mono ?_
    rintro e w4 ⟨rfl, hb4⟩
    have HB4 := Lib.hid (HB3.out.trans (hb4.mono HB3.out.size))
    clear hb4
    go_wp2_with fail
    refine (HBR.out _).mono ?_
    rintro e w5 ⟨rfl, hw⟩
    have hw2 := hw.symm
    subst hw2
    clear hw
    go_wp2
    go_ret2
    exact tg_fin HF.out rfl rfl HB4.out
  | false =>
   by_cases h1 : n = wScript
   ·have hx : n ∉ breakNames := by rw [h1]; decide
    have g1 : ((ba n).toList != [115, 99, 114, 105, 112, 116]) = false := by rw [ba_toList, h1]; rfl
    have g2 : ((ba n).toList == [115, 99, 114, 105, 112, 116]) = true := by rw [ba_toList, h1]; rfl
    have HRR := Lib.hid (HRW.out (by rw [h1]; simp))
    clear h1
    rw [if_neg hx] at HRR
    simp only [decide_eq_false hx] at HBR
    clear hx HPL HRW
    have hnl : n.length ≤ 100000000 ∨ True := .inr trivial
    have HSM := Lib.hid (fun W => dcsmall_any r W (by omega))
    have HIX := Lib.hid (fun W hW => sindex_any (smallP r) ([60, 47] ++ n) W (by rw [smallP_len]; omega) hW)
    have hro := Lib.index_room (smallP r) ([60, 47] ++ n)
    have hge := Lib.index_ge (smallP r) ([60, 47] ++ n)
    rw [smallP_len] at hro
    unfold StrB at HSM
    have hap : (⟨#[60, 47]⟩ : ByteArray) ++ ba n = ba ([60, 47] ++ n) := (ba_append [60, 47] n).symm ▸ rfl
    have hln : ¬ 9223372036854775807 < (⟨#[60, 47]⟩ : ByteArray).size + (ba n).size := by rw [ba_size]; have := HNL.out; show ¬ _ < 2 + n.length; omega
    obtain ⟨x, hxx⟩ : ∃ x, Lib.index (smallP r) ([60, 47] ++ n) = x := ⟨_, rfl⟩
    rw [hxx] at HRR hro hge
    simp only [hxx] at HIX
    clear hxx hnl
    by_cases hx0 : x < 0
    ·have HF := Lib.hid (show o = ([], []) by rw [HRR.out, if_pos hx0])
     have gx : decide (x < 0) = true := decide_eq_true hx0
     clear hro hge
     go_enter Tryz.func53, Tryz.ntmps53
     go_wp2_with fail
     refine (HC.out _).mono ?_
     rintro e w2 ⟨rfl, rfl⟩
     go_wp2_with fail
     refine (HNA.out _).mono ?_
     rintro e w3 ⟨rfl, hb3⟩
     have HB3 := Lib.hid hb3
     clear hb3
     go_wp2_with fail
     refine (HB2.out _ (HT.out.below HB3.out)).mono ?_
     rintro e w4 ⟨rfl, hb4⟩
     have HB4 := Lib.hid (HB3.out.trans (hb4.mono HB3.out.size))
     clear hb4
     go_wp2_with fail
     refine (HBR.out _).mono ?_
     rintro e w5 ⟨rfl, hw⟩
     have hw2 := hw.symm
     subst hw2
     clear hw
     go_wp2_with fail
     refine (HSM.out _).mono ?_
     rintro e w6 ⟨rfl, hb6⟩
     have HB6 := Lib.hid (HB4.out.trans (hb6.mono HB4.out.size))
     clear hb6
     go_wp2_with fail
     refine (HIX.out _ (HT.out.below HB6.out)).mono ?_
     rintro e w7 ⟨rfl, hw⟩
     have hw2 := hw.symm
     subst hw2
     clear hw
     go_wp2
     go_ret2
     exact tg_fin HF.out rfl rfl HB6.out
    ·have gx : decide (x < 0) = false := decide_eq_false hx0
     have hx1 : 0 ≤ x := by omega
     have hx2 : x ≤ (r.length : Int) := by have := hro hx1; omega
     have HF := Lib.hid (show o = ([], r.drop x.toNat) by rw [HRR.out, if_neg hx0])
     have hrz : ((ba r).size : Int) = (r.length : Int) := by rw [ba_size]
     have hdr : (ba r).extract x.toNat (ba r).size = ba (r.drop x.toNat) := ba_drop r _
     clear hro hge hx0
     go_enter Tryz.func53, Tryz.ntmps53
     go_wp2_with fail
     refine (HC.out _).mono ?_
     rintro e w2 ⟨rfl, rfl⟩
     go_wp2_with fail
     refine (HNA.out _).mono ?_
     rintro e w3 ⟨rfl, hb3⟩
     have HB3 := Lib.hid hb3
     clear hb3
     go_wp2_with fail
     refine (HB2.out _ (HT.out.below HB3.out)).mono ?_
     rintro e w4 ⟨rfl, hb4⟩
     have HB4 := Lib.hid (HB3.out.trans (hb4.mono HB3.out.size))
     clear hb4
     go_wp2_with fail
     refine (HBR.out _).mono ?_
     rintro e w5 ⟨rfl, hw⟩
     have hw2 := hw.symm
     subst hw2
     clear hw
     go_wp2_with fail
     refine (HSM.out _).mono ?_
     rintro e w6 ⟨rfl, hb6⟩
     have HB6 := Lib.hid (HB4.out.trans (hb6.mono HB4.out.size))
     clear hb6
     go_wp2_with fail
     refine (HIX.out _ (HT.out.below HB6.out)).mono ?_
     rintro e w7 ⟨rfl, hw⟩
     have hw2 := hw.symm
     subst hw2
     clear hw
     go_wp2
     go_quiet (fail)
     go_wp2
     go_ret2
     exact tg_fin HF.out rfl rfl (below_drewN HB6.out _)
   ·have g1 : ((ba n).toList != [115, 99, 114, 105, 112, 116]) = true := by rw [ba_toList, bne_iff_ne]; exact h1
    have g1b : ((ba n).toList == [115, 99, 114, 105, 112, 116]) = false := by rw [ba_toList, beq_eq_false_iff_ne]; exact h1
    by_cases h2 : n = wStyle
    ·have hx : n ∉ breakNames := by rw [h2]; decide
     have g2 : ((ba n).toList != [115, 116, 121, 108, 101]) = false := by rw [ba_toList, h2]; rfl
     have g3 : ((ba n).toList == [115, 116, 121, 108, 101]) = true := by rw [ba_toList, h2]; rfl
     have HRR := Lib.hid (HRW.out (by rw [h2]; simp))
     clear h1 h2
     rw [if_neg hx] at HRR
     simp only [decide_eq_false hx] at HBR
     clear hx HPL HRW
     have hnl : n.length ≤ 100000000 ∨ True := .inr trivial
     have HSM := Lib.hid (fun W => dcsmall_any r W (by omega))
     have HIX := Lib.hid (fun W hW => sindex_any (smallP r) ([60, 47] ++ n) W (by rw [smallP_len]; omega) hW)
     have hro := Lib.index_room (smallP r) ([60, 47] ++ n)
     have hge := Lib.index_ge (smallP r) ([60, 47] ++ n)
     rw [smallP_len] at hro
     unfold StrB at HSM
     have hap : (⟨#[60, 47]⟩ : ByteArray) ++ ba n = ba ([60, 47] ++ n) := (ba_append [60, 47] n).symm ▸ rfl
     have hln : ¬ 9223372036854775807 < (⟨#[60, 47]⟩ : ByteArray).size + (ba n).size := by rw [ba_size]; have := HNL.out; show ¬ _ < 2 + n.length; omega
     obtain ⟨x, hxx⟩ : ∃ x, Lib.index (smallP r) ([60, 47] ++ n) = x := ⟨_, rfl⟩
     rw [hxx] at HRR hro hge
     simp only [hxx] at HIX
     clear hxx hnl
     by_cases hx0 : x < 0
     ·have HF := Lib.hid (show o = ([], []) by rw [HRR.out, if_pos hx0])
      have gx : decide (x < 0) = true := decide_eq_true hx0
      clear hro hge
      go_enter Tryz.func53, Tryz.ntmps53
      go_wp2_with fail
      refine (HC.out _).mono ?_
      rintro e w2 ⟨rfl, rfl⟩
      go_wp2_with fail
      refine (HNA.out _).mono ?_
      rintro e w3 ⟨rfl, hb3⟩
      have HB3 := Lib.hid hb3
      clear hb3
      go_wp2_with fail
      refine (HB2.out _ (HT.out.below HB3.out)).mono ?_
      rintro e w4 ⟨rfl, hb4⟩
      have HB4 := Lib.hid (HB3.out.trans (hb4.mono HB3.out.size))
      clear hb4
      go_wp2_with fail
      refine (HBR.out _).mono ?_
      rintro e w5 ⟨rfl, hw⟩
      have hw2 := hw.symm
      subst hw2
      clear hw
      go_wp2_with fail
      refine (HSM.out _).mono ?_
      rintro e w6 ⟨rfl, hb6⟩
      have HB6 := Lib.hid (HB4.out.trans (hb6.mono HB4.out.size))
      clear hb6
      go_wp2_with fail
      refine (HIX.out _ (HT.out.below HB6.out)).mono ?_
      rintro e w7 ⟨rfl, hw⟩
      have hw2 := hw.symm
      subst hw2
      clear hw
      go_wp2
      go_ret2
      exact tg_fin HF.out rfl rfl HB6.out
     ·have gx : decide (x < 0) = false := decide_eq_false hx0
      have hx1 : 0 ≤ x := by omega
      have hx2 : x ≤ (r.length : Int) := by have := hro hx1; omega
      have HF := Lib.hid (show o = ([], r.drop x.toNat) by rw [HRR.out, if_neg hx0])
      have hrz : ((ba r).size : Int) = (r.length : Int) := by rw [ba_size]
      have hdr : (ba r).extract x.toNat (ba r).size = ba (r.drop x.toNat) := ba_drop r _
      clear hro hge hx0
      go_enter Tryz.func53, Tryz.ntmps53
      go_wp2_with fail
      refine (HC.out _).mono ?_
      rintro e w2 ⟨rfl, rfl⟩
      go_wp2_with fail
      refine (HNA.out _).mono ?_
      rintro e w3 ⟨rfl, hb3⟩
      have HB3 := Lib.hid hb3
      clear hb3
      go_wp2_with fail
      refine (HB2.out _ (HT.out.below HB3.out)).mono ?_
      rintro e w4 ⟨rfl, hb4⟩
      have HB4 := Lib.hid (HB3.out.trans (hb4.mono HB3.out.size))
      clear hb4
      go_wp2_with fail
      refine (HBR.out _).mono ?_
      rintro e w5 ⟨rfl, hw⟩
      have hw2 := hw.symm
      subst hw2
      clear hw
      go_wp2_with fail
      refine (HSM.out _).mono ?_
      rintro e w6 ⟨rfl, hb6⟩
      have HB6 := Lib.hid (HB4.out.trans (hb6.mono HB4.out.size))
      clear hb6
      go_wp2_with fail
      refine (HIX.out _ (HT.out.below HB6.out)).mono ?_
      rintro e w7 ⟨rfl, hw⟩
      have hw2 := hw.symm
      subst hw2
      clear hw
      go_wp2
      go_quiet (fail)
      go_wp2
      go_ret2
      exact tg_fin HF.out rfl rfl (below_drewN HB6.out _)
    ·have g2 : ((ba n).toList != [115, 116, 121, 108, 101]) = true := by rw [ba_toList, bne_iff_ne]; exact h2
     have g2b : ((ba n).toList == [115, 116, 121, 108, 101]) = false := by rw [ba_toList, beq_eq_false_iff_ne]; exact h2
     by_cases hm : n ∈ breakNames
     ·have HF := Lib.hid (show o = ([10], r) by rw [HPL.out (.inr ⟨h1, h2⟩), if_pos hm])
      simp only [decide_eq_true hm] at HBR
      clear hm h1 h2
      go_enter Tryz.func53, Tryz.ntmps53
      go_wp2_with fail
      refine (HC.out _).mono ?_
      rintro e w2 ⟨rfl, rfl⟩
      go_wp2_with fail
      refine (HNA.out _).mono ?_
      rintro e w3 ⟨rfl, hb3⟩
      have HB3 := Lib.hid hb3
      clear hb3
      go_wp2_with fail
      refine (HB2.out _ (HT.out.below HB3.out)).mono ?_
      rintro e w4 ⟨rfl, hb4⟩
      have HB4 := Lib.hid (HB3.out.trans (hb4.mono HB3.out.size))
      clear hb4
      go_wp2_with fail
      refine (HBR.out _).mono ?_
      rintro e w5 ⟨rfl, hw⟩
      have hw2 := hw.symm
      subst hw2
      clear hw
      go_wp2
      go_ret2
      exact tg_fin HF.out rfl rfl HB4.out
     ·have HF := Lib.hid (show o = ([], r) by rw [HPL.out (.inr ⟨h1, h2⟩), if_neg hm])
      simp only [decide_eq_false hm] at HBR
      clear hm h1 h2
      go_enter Tryz.func53, Tryz.ntmps53
      go_wp2_with fail
      refine (HC.out _).mono ?_
      rintro e w2 ⟨rfl, rfl⟩
      go_wp2_with fail
      refine (HNA.out _).mono ?_
      rintro e w3 ⟨rfl, hb3⟩
      have HB3 := Lib.hid hb3
      clear hb3
      go_wp2_with fail
      refine (HB2.out _ (HT.out.below HB3.out)).mono ?_
      rintro e w4 ⟨rfl, hb4⟩
      have HB4 := Lib.hid (HB3.out.trans (hb4.mono HB3.out.size))
      clear hb4
      go_wp2_with fail
      refine (HBR.out _).mono ?_
      rintro e w5 ⟨rfl, hw⟩
      have hw2 := hw.symm
      subst hw2
      clear hw
      go_wp2
      go_ret2
      exact tg_fin HF.out rfl rfl HB4.out
end Go.Proofs.YthidbmeaccpjdaaGreatDoor
end
section
namespace Go.Proofs.YthidbmeaccpjdaaGreatDoor
open Go.RowKit
set_option linter.unusedVariables false
theorem dig_index (c : UInt8) : Lib.indexByte [48, 49, 50, 51, 52, 53, 54, 55, 56, 57, 97, 98, 99, 100, 101, 102] (smallB c) = digV c := u8_all (fun c => Lib.indexByte [48, 49, 50, 51, 52, 53, 54, 55, 56, 57, 97, 98, 99, 100, 101, 102] (smallB c) = digV c) (by decide +kernel) c
theorem digitV_of {base : Nat} {c : UInt8} (h1 : 0 ≤ digV c) (h2 : digV c < (base : Int)) : digitV base c = some (digV c).toNat := by
 unfold digitV
 rw [digV_hex, if_neg (by omega)]
 dsimp only
 rw [if_pos (by omega)]
theorem digitV_no {base : Nat} {c : UInt8} (h : digV c < 0 ∨ (base : Int) ≤ digV c) : digitV base c = none := by
 unfold digitV
 rw [digV_hex]
 rcases h with h | h
 ·rw [if_pos h]
 ·have := digV_bd c
  by_cases h0 : digV c < 0
  ·rw [if_pos h0]
  ·rw [if_neg h0]
   dsimp only
   rw [if_neg (by omega)]
def DgPost (w : World) (o : Option Nat) (e : Ending) (w' : World) : Prop := ∃ v : Int, e = .returned (.tuple #[.int .i64 v, .bool o.isSome]) ∧ (∀ n, o = some n → v = (n : Int)) ∧ Below w.heap.size w w'
theorem dg_no {w w' : World} {o : Option Nat} {v : Int} (h : o = none) (hb : Below w.heap.size w w') : DgPost w o (.returned (.tuple #[.int .i64 v, .bool false])) w' := by
 subst h
 exact ⟨v, rfl, (fun n h => by cases h), hb⟩
theorem dg_yes {w w' : World} {o : Option Nat} {v : Int} {n : Nat} (h : o = some n) (hv : v = (n : Int)) (hb : Below w.heap.size w w') : DgPost w o (.returned (.tuple #[.int .i64 v, .bool true])) w' := by
 subst h
 exact ⟨v, rfl, (fun m h => by injection h with h; subst h; exact hv), hb⟩
theorem numG_cons {base n : Nat} {c : UInt8} {r : List UInt8} : numG base n (c :: r) = match digitV base c with
  | some d => numG base (n * base + d) r
  | none => none := rfl
structure DgRel (l : List UInt8) (base k : Nat) (v : Int) : Prop where
 ex : ∃ n : Nat, v = (n : Int) ∧ numG base 0 l = numG base n (l.drop k) ∧ n < 16 ^ k
theorem DgRel.next {l : List UInt8} {base k : Nat} {v : Int} (h : DgRel l base k v) (hb : base ≤ 16) (hk : k < l.length) (h1 : 0 ≤ digV (l[k])) (h2 : digV (l[k]) < (base : Int)) : DgRel l base (k + 1) (v * (base : Int) + digV (l[k])) := by
 obtain ⟨n, rfl, hn, hlt⟩ := h.ex
 have hd := digitV_of h1 h2
 rw [List.drop_eq_getElem_cons hk, numG_cons, hd] at hn
 refine ⟨⟨n * base + (digV (l[k])).toNat, ?_, hn, ?_⟩⟩
 ·rw [Int.natCast_add, Int.natCast_mul, Int.toNat_of_nonneg h1]
 ·have h3 : (digV (l[k])).toNat < base := by omega
  have h4 : n * base + (digV (l[k])).toNat < (n + 1) * base := by rw [Nat.add_mul]; omega
  have h5 : (n + 1) * base ≤ 16 ^ k * 16 := Nat.mul_le_mul hlt hb
  rw [Nat.pow_succ]
  omega
theorem DgRel.stop {l : List UInt8} {base k : Nat} {v : Int} (h : DgRel l base k v) (hk : k < l.length) (hd : digV (l[k]) < 0 ∨ (base : Int) ≤ digV (l[k])) : numG base 0 l = none := by
 obtain ⟨n, rfl, hn, hlt⟩ := h.ex
 rw [hn, List.drop_eq_getElem_cons hk, numG_cons, digitV_no hd]
theorem DgRel.bound {l : List UInt8} {base k : Nat} {v : Int} (h : DgRel l base k v) (hk : k ≤ 7) : 0 ≤ v ∧ v < 268435456 := by
 obtain ⟨n, rfl, hn, hlt⟩ := h.ex
 have : 16 ^ k ≤ 16 ^ 7 := Nat.pow_le_pow_right (by decide) hk
 have h7 : (16 : Nat) ^ 7 = 268435456 := by decide
 omega
theorem DgRel.fin {l : List UInt8} {base : Nat} {v : Int} (h : DgRel l base l.length v) : ∃ n, numG base 0 l = some n ∧ v = (n : Int) := by
 obtain ⟨n, rfl, hn, hlt⟩ := h.ex
 rw [List.drop_length] at hn
 exact ⟨n, hn, rfl⟩
set_option maxRecDepth 100000 in
set_option maxHeartbeats 4000000 in
theorem digits_any (l : List UInt8) (base most : Nat) (w : World) (hl : l.length ≤ 100000000) (hb0 : 1 ≤ base) (hb : base ≤ 16) (hm : most ≤ 7) :
  Calls Tryz.prog 117 #[.string (ba l), .int .i64 (base : Int), .int .i64 (most : Int)] w (DgPost w (numP l base most)) := by
 have HCU := Lib.hid (show ∀ i j, (ba l).extract i j = ba ((l.take j).drop i) from fun i j => ba_cut l i j)
 have HSH := Lib.hid (show numP l base most = if l = [] ∨ most < l.length then none else numG base 0 l from rfl)
 have HR0 := Lib.hid (show DgRel l base 0 0 from ⟨⟨0, rfl, rfl, by decide⟩⟩)
 have hem : (ba l).toList.isEmpty = l.isEmpty := by rw [ba_toList]
 obtain ⟨o, ho⟩ : ∃ o, numP l base most = o := ⟨_, rfl⟩
 rw [ho] at HSH ⊢
 clear ho
 obtain ⟨n, hn⟩ : ∃ n, l.length = n := ⟨_, rfl⟩
 have HL := Lib.hid hn
 obtain ⟨s, hs⟩ : ∃ s, ba l = s := ⟨_, rfl⟩
 have HS := Lib.hid hs
 have HZ := Lib.hid (show s.size = n by rw [← hs, ba_size, hn])
 have hsz : (s.size : Int) = n := by rw [HZ.out]
 rw [hs]
 rw [hn] at hl
 clear hs hn
 simp only [HS.out] at HCU
 rw [HS.out] at hem
 have hbI : (base : Int) ≤ 16 := by omega
 have hbI0 : (1 : Int) ≤ (base : Int) := by omega
 have hmI : (most : Int) ≤ 7 := by omega
 obtain ⟨B, hB⟩ : ∃ B : Int, (base : Int) = B := ⟨_, rfl⟩
 obtain ⟨M, hM⟩ : ∃ B : Int, (most : Int) = B := ⟨_, rfl⟩
 rw [hB] at hbI hbI0
 rw [hM] at hmI
 rw [hB, hM]
 have HBB := Lib.hid hB
 have HMM := Lib.hid hM
 clear hB hM
 go_enter Tryz.func117, Tryz.ntmps117
 go_wp2
 go_loopw [8, 9, 10, 13] (fun v a b i wr => ∃ (k : Nat) (V : Int) (y z : Value), a = y ∧ b = z ∧ k ≤ n ∧ i = .int .i64 (k : Int) ∧ v = .int .i64 V ∧ Hid ((n ≤ most → DgRel l base k V) ∧ Below w.heap.size w wr)) (fun _ _ _ i _ => n - (intOf i).toNat)
 case atStart => exact ⟨0, 0, _, _, rfl, rfl, Nat.zero_le _, rfl, rfl, Lib.hid ⟨fun _ => HR0.out, Below.refl _ _⟩⟩
 case round =>
  obtain ⟨k, V, y, z, rfl, rfl, hk, rfl, rfl, HR⟩ := hrel
  have hszr := HR.out.2.size
  by_cases hlt : k < n
  ·have hk2 : (k : Int) < (n : Int) := by omega
   have hk0 : (0 : Int) ≤ (k : Int) := by omega
   have hks : k < s.size := by rw [HZ.out]; omega
   have hkl : k < l.length := by rw [HL.out]; omega
   have hget : s[k] = l[k] := by
    have h := HS.out
    subst h
    rfl
   have hk1 : (k : Int) + 1 ≤ (n : Int) := by omega
   have hkt : ((k : Int) + 1).toNat = k + 1 := by omega
   have hkb : (k : Int) ≤ 100000000 := by omega
   have hcut : s.extract k (k + 1) = ba [l[k]] := by
    rw [HCU.out, List.take_succ_eq_append_getElem hkl, List.drop_left' (by rw [List.length_take]; omega)]
   have HNX := Lib.hid (fun (hmo : n ≤ most) h1 h2 => (HR.out.1 hmo).next hb hkl h1 h2)
   have HSO := Lib.hid (fun (hmo : n ≤ most) hd => (HR.out.1 hmo).stop hkl hd)
   obtain ⟨c, hc⟩ : ∃ c, l[k] = c := ⟨_, rfl⟩
   rw [hc] at hcut
   simp only [hc] at HNX HSO
   have HXC := Lib.hid hcut
   have HSM := Lib.hid (show ∀ W, Calls Tryz.prog 115 #[.string (ba [c])] W (StrB W [smallB c]) from fun W => dcsmall_any [c] W (by simp))
   unfold StrB at HSM
   obtain ⟨Y, hY⟩ : ∃ y : Int, ((smallB c).toNat : Int) = y := ⟨_, rfl⟩
   have hgi : ∃ h : 0 < (ba [smallB c]).size, (((ba [smallB c])[0]'h).toNat : Int) = Y := ⟨by rw [ba_size]; simp, hY⟩
   have HIX := Lib.hid (show ∀ W, Calls Tryz.prog 128 #[.string ⟨#[48, 49, 50, 51, 52, 53, 54, 55, 56, 57, 97, 98, 99, 100, 101, 102]⟩, .int .u8 Y] W fun e w' => e = .returned (.int .i64 (digV c)) ∧ w' = W from fun W => by
    rw [← hY]
    refine (Tryz.strings_IndexByte _ ((smallB c).toNat : Int) W).mono ?_
    rintro e w' ⟨rfl, rfl⟩
    rw [u8_back, ← dig_index]
    exact ⟨rfl, rfl⟩)
   have hdb := digV_bd c
   obtain ⟨D, hD⟩ : ∃ D, digV c = D := ⟨_, rfl⟩
   rw [hD] at hdb
   simp only [hD] at HNX HSO HIX
   obtain ⟨T, hT⟩ : ∃ T, ba [smallB c] = T := ⟨_, rfl⟩
   simp only [hT] at HSM
   rw [hT] at hgi
   clear hc hY hD hT hcut hget hkl
   obtain ⟨hz0, hgj⟩ := hgi
   by_cases hbad : D < 0 ∨ B ≤ D
   ·have HF := Lib.hid (show o = none by
     rw [HSH.out]
     by_cases hmo : n ≤ most
     ·split
      ·rfl
      ·exact HSO.out hmo (by rw [HBB.out]; exact hbad)
     ·rw [if_pos (.inr (by rw [HL.out]; omega))])
    clear HNX HSO
    by_cases hd0 : D < 0
    ·have g1 : decide (D < 0) = true := decide_eq_true hd0
     go_wp2_with fail
     rw [HXC.out]
     refine (HSM.out _).mono ?_
     rintro e w2 ⟨rfl, hb2⟩
     have HB2 := Lib.hid (HR.out.2.trans (hb2.mono hszr))
     clear hb2
     go_wp2_with fail
     refine (HIX.out _).mono ?_
     rintro e w3 ⟨rfl, hw⟩
     have hw2 := hw.symm
     subst hw2
     clear hw
     go_wp2
     go_ret2
     exact dg_no HF.out HB2.out
    ·have g1 : decide (D < 0) = false := decide_eq_false hd0
     have g2 : B ≤ D := by omega
     have g3 : decide (B ≤ D) = true := decide_eq_true g2
     go_wp2_with fail
     rw [HXC.out]
     refine (HSM.out _).mono ?_
     rintro e w2 ⟨rfl, hb2⟩
     have HB2 := Lib.hid (HR.out.2.trans (hb2.mono hszr))
     clear hb2
     go_wp2_with fail
     refine (HIX.out _).mono ?_
     rintro e w3 ⟨rfl, hw⟩
     have hw2 := hw.symm
     subst hw2
     clear hw
     go_wp2
     go_ret2
     exact dg_no HF.out HB2.out
   ·have hd0 : 0 ≤ D := by omega
    have hdB : D < B := by omega
    have g1 : decide (D < 0) = false := decide_eq_false (by omega)
    have g3 : decide (B ≤ D) = false := decide_eq_false (by omega)
    have HNN := Lib.hid (fun hmo => HNX.out hmo hd0 (by rw [HBB.out]; exact hdB))
    rw [HBB.out] at HNN
    have hVb := fun hmo => (HR.out.1 hmo).bound (by omega)
    clear HNX HSO hbad
    by_cases hmo : n ≤ most
    ·obtain ⟨v0, v1⟩ := hVb hmo
     have hm1 : 0 ≤ V * B := Int.mul_nonneg v0 (by omega)
     have hm2 : V * B ≤ 268435456 * 16 := Int.mul_le_mul (by omega) hbI (by omega) (by omega)
     obtain ⟨Q, hQ⟩ : ∃ Q, V * B = Q := ⟨_, rfl⟩
     rw [hQ] at HNN hm1 hm2
     clear hVb v0 v1
     go_wp2_with fail
     rw [HXC.out]
     refine (HSM.out _).mono ?_
     rintro e w2 ⟨rfl, hb2⟩
     have HB2 := Lib.hid (HR.out.2.trans (hb2.mono hszr))
     clear hb2
     go_wp2_with fail
     refine (HIX.out _).mono ?_
     rintro e w3 ⟨rfl, hw⟩
     have hw2 := hw.symm
     subst hw2
     clear hw
     go_wp2
     go_roundw
     case rel => exact ⟨k + 1, Q + D, _, _, rfl, rfl, by omega, by go_num, by first | rfl | go_num, Lib.hid ⟨fun h => HNN.out h, HB2.out⟩⟩
     case measure => simp [intOf] <;> omega
    ·clear hVb HNN
     go_wp2_with fail
     rw [HXC.out]
     refine (HSM.out _).mono ?_
     rintro e w2 ⟨rfl, hb2⟩
     have HB2 := Lib.hid (HR.out.2.trans (hb2.mono hszr))
     clear hb2
     go_wp2_with fail
     refine (HIX.out _).mono ?_
     rintro e w3 ⟨rfl, hw⟩
     have hw2 := hw.symm
     subst hw2
     clear hw
     go_wp2
     go_roundw
     case rel => exact ⟨k + 1, _, _, _, rfl, rfl, by omega, by go_num, rfl, Lib.hid ⟨fun h => absurd h hmo, HB2.out⟩⟩
     case measure => simp [intOf] <;> omega
  ·obtain rfl : k = n := by omega
   have HBE := Lib.hid HR.out.2
   by_cases hle : l = []
   ·have HF := Lib.hid (show o = none by rw [HSH.out, if_pos (.inl hle)])
    have g1 : s.toList.isEmpty = true := by rw [hem, hle]; rfl
    clear hem hle HR
    go_wp2
    go_ret2
    exact dg_no HF.out HBE.out
   ·have g1 : s.toList.isEmpty = false := by rw [hem]; simpa using hle
    clear hem
    by_cases hmo : k ≤ most
    ·have hfin := (by have := HR.out.1 hmo; rw [← HL.out] at this; exact this : DgRel l base l.length V).fin
     obtain ⟨q, hq1, hq2⟩ := hfin
     have HF := Lib.hid (show o = some q by rw [HSH.out, if_neg (by rintro (h | h); exact hle h; rw [HL.out] at h; omega), hq1])
     have HV := Lib.hid hq2
     have gm : (k : Int) ≤ M := by rw [← HMM.out]; omega
     have gm2 : decide ((k : Int) ≤ M) = true := decide_eq_true gm
     clear hle HR hq1 hq2
     go_wp2
     go_ret2
     exact dg_yes HF.out HV.out HBE.out
    ·have HF := Lib.hid (show o = none by rw [HSH.out, if_pos (.inr (by rw [HL.out]; omega))])
     have gm : ¬ (k : Int) ≤ M := by rw [← HMM.out]; omega
     have gm2 : decide ((k : Int) ≤ M) = false := decide_eq_false gm
     clear hle HR
     go_wp2
     go_ret2
     exact dg_no HF.out HBE.out
end Go.Proofs.YthidbmeaccpjdaaGreatDoor
end
