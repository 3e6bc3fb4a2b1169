/- Layer 9: the contract of small. -/
import Derived.Test.YtnpgnohlcphfnaaGreatDoorM03
namespace Go.Proofs.YtnpgnohlcphfnaaGreatDoor
open Go.RowKit
set_option linter.unusedVariables false

set_option maxRecDepth 100000 in
set_option maxHeartbeats 4000000 in
theorem hdsmall_any (l : List UInt8) (w : World) (hl : l.length ≤ 1000000000) :
    Calls Tryz.prog 95 #[.string (ba l)] w (StrB w (smallP l)) := by
  have hcv := fun (W : World) (S : ByteArray) => run_bytes_of_string (P := Tryz.prog) W 9 59 5 S Tryz.underlying9 Tryz.underlying59 Tryz.underlying5
  have HR0 := Lib.hid (fun (cap m : Nat) (hm : l.length ≤ m) => ByteRow.of_string w l cap 5 m hm)
  obtain ⟨n, hn⟩ : ∃ n, l.length = n := ⟨_, rfl⟩
  have HL := Lib.hid hn
  obtain ⟨s, hs⟩ : ∃ s, ba l = s := ⟨_, rfl⟩
  have HS := Lib.hid hs
  have HZ := Lib.hid (show s.size = n by rw [← hs, ba_size, hn])
  have hsz : (s.size : Int) = n := by rw [HZ.out]
  rw [hs]
  rw [hn] at hl
  clear hs hn
  rw [HS.out] at HR0
  go_enter Tryz.func95, Tryz.ntmps95
  go_wp2
  obtain ⟨C, hC⟩ : ∃ C, grownCap w s.size 0 5 = C := ⟨_, rfl⟩
  have HCN := Lib.hid (show l.length ≤ (bytesRow s C).size by rw [bytesRow_size s C (by rw [← hC]; have := grownCap_ge w s.size 0 5; omega), ← hC, HL.out]; have := grownCap_ge w s.size 0 5; omega)
  rw [hC]
  clear hC hcv
  go_loopw [10] (fun i wr => ∃ k : Nat, k ≤ n ∧ i = .int .i64 (k : Int) ∧ Hid (SmRel w l k wr)) (fun i _ => n - (intOf i).toNat)
  case atStart =>
    refine ⟨0, Nat.zero_le _, rfl, Lib.hid ⟨?_, (Below.refl _ _).drew.alloc (Nat.le_refl _) _⟩⟩
    rw [show smallP (l.take 0) ++ l.drop 0 = l from rfl]
    exact (HR0.out C _ HCN.out).drew
  case round =>
    obtain ⟨k, hk, rfl, HR⟩ := hrel
    have hsz2 := HR.out.bel.size
    by_cases hlt : k < n
    · have hk2 : (k : Int) < (n : Int) := by omega
      have hk3 : (k : Int) < (s.size : Int) := by omega
      have hk0 : (0 : Int) ≤ (k : Int) := by omega
      have hkl : k < l.length := by rw [HL.out]; exact hlt
      have hks : k < (smallP (l.take k) ++ l.drop k).length := by rw [sm_len]; exact hkl
      have hcell := HR.out.row.cell hks
      have hfree := HR.out.row.free hks
      rw [sm_get hkl hks] at hcell
      have HST := Lib.hid (sm_step hkl)
      have HSA := Lib.hid (sm_same hkl)
      have HSET := Lib.hid (HR.out.row.set hks (smallB l[k]))
      obtain ⟨c, hc⟩ : ∃ c, l[k] = c := ⟨_, rfl⟩
      rw [hc] at hcell HST HSA HSET
      have HY := Lib.hid (smallB_yes (c := c))
      have HNO := Lib.hid (smallB_no (c := c))
      obtain ⟨x, hx⟩ : ∃ x : Int, (c.toNat : Int) = x := ⟨_, rfl⟩
      rw [hx] at hcell HY HNO
      have hx0 : 0 ≤ x := by omega
      have hx1 : x ≤ 255 := by have := c.toNat_lt; omega
      have HX := Lib.hid hx
      clear hc hkl hks hx
      by_cases e1 : 65 ≤ x
      · by_cases e2 : x ≤ 90
        · have g1 : decide (65 ≤ x) = true := decide_eq_true e1
          have g2 : decide (x ≤ 90) = true := decide_eq_true e2
          have HV := Lib.hid (show (smallB c).toNat = x + 32 by rw [HY.out ⟨e1, e2⟩]; have := HX.out; have := c.toNat_lt; simp; omega)
          go_wp2
          go_roundw
          case rel =>
            refine ⟨k + 1, by omega, by go_num, Lib.hid ⟨?_, HR.out.bel.setCell (Nat.le_refl _) _⟩⟩
            rw [HST.out]
            have := HSET.out
            rw [HV.out] at this
            exact this
          case measure => simp [intOf] <;> omega
        · have g1 : decide (65 ≤ x) = true := decide_eq_true e1
          have g2 : decide (x ≤ 90) = false := decide_eq_false e2
          have HV := Lib.hid (HSA.out (HNO.out fun h => e2 h.2))
          clear hfree
          go_wp2
          go_roundw
          case rel =>
            refine ⟨k + 1, by omega, by go_num, Lib.hid ⟨?_, HR.out.bel⟩⟩
            rw [HV.out]
            exact HR.out.row
          case measure => simp [intOf] <;> omega
      · have g1 : decide (65 ≤ x) = false := decide_eq_false e1
        have HV := Lib.hid (HSA.out (HNO.out fun h => e1 h.1))
        clear hfree
        go_wp2
        go_roundw
        case rel =>
          refine ⟨k + 1, by omega, by go_num, Lib.hid ⟨?_, HR.out.bel⟩⟩
          rw [HV.out]
          exact HR.out.row
        case measure => simp [intOf] <;> omega
    · obtain rfl : k = n := by omega
      have hrow : ByteRow wr w.heap.size (smallP l) := by
        have := HR.out.row
        rw [List.take_of_length_le (by rw [HL.out]; exact Nat.le_refl _), List.drop_of_length_le (by rw [HL.out]; exact Nat.le_refl _), List.append_nil] at this
        exact this
      have hback := run_convert_bytes_back (P := Tryz.prog) wr 59 9 5 ⟨w.heap.size, 0, none⟩ C (smallP l) Tryz.underlying59 Tryz.underlying5 Tryz.underlying9 hrow.cells
      rw [smallP_len, HL.out, ← HZ.out] at hback
      clear hrow hsz
      go_wp2
      go_ret
      exact ⟨rfl, HR.out.bel⟩
end Go.Proofs.YtnpgnohlcphfnaaGreatDoor
