/- Layer 4: the contracts of ascii, latin and windows. Layer 4: the contracts of what bytewise makes (printed by gen_bytewise. -/
import Derived.Test.YthidbmeaccpjdaaGreatDoorM12
import Derived.Test.YthidbmeaccpjdaaGreatDoorM02
namespace Go.Proofs.YthidbmeaccpjdaaGreatDoor
open Go.RowKit
set_option linter.unusedVariables false
set_option maxHeartbeats 4000000
theorem ascii_any (c : UInt8) (w : World) : Calls Tryz.prog 161 #[.int .u8 (c.toNat : Int)] w fun e w' => e = .returned (.int .i64 (signA c : Nat)) ∧ w' = w := by
 have HS := Lib.hid (show (signA c : Int) = if (c.toNat : Int) < 128 then (c.toNat : Int) else 65533 by
  unfold signA
  by_cases h : c < 128
  ·have h2 : (c.toNat : Int) < 128 := by have := UInt8.lt_iff_toNat_lt.1 h; have h3 : (128 : UInt8).toNat = 128 := rfl; omega
   rw [if_pos h, if_pos h2]
  ·have h2 : ¬ (c.toNat : Int) < 128 := fun h3 => h (UInt8.lt_iff_toNat_lt.2 (by have h4 : (128 : UInt8).toNat = 128 := rfl; omega))
   rw [if_neg h, if_neg h2]
   rfl)
 obtain ⟨x, hx⟩ : ∃ x : Int, (c.toNat : Int) = x := ⟨_, rfl⟩
 have hx0 : 0 ≤ x := by omega
 have hx1 : x ≤ 255 := by have := c.toNat_lt; omega
 rw [hx] at HS ⊢
 clear hx
 by_cases e1 : 128 ≤ x
 ·have g1 : decide (128 ≤ x) = true := decide_eq_true e1
  have HV := Lib.hid (show (signA c : Int) = 65533 by rw [HS.out, if_neg (by omega)])
  go_enter Tryz.func161, Tryz.ntmps161
  go_wp2
  go_ret
  exact ⟨by rw [HV.out]; rfl, rfl⟩
 ·have g1 : decide (128 ≤ x) = false := decide_eq_false e1
  have HV := Lib.hid (show (signA c : Int) = x by rw [HS.out, if_pos (by omega)])
  go_enter Tryz.func161, Tryz.ntmps161
  go_wp2
  go_ret
  exact ⟨by rw [HV.out]; rfl, rfl⟩
theorem latin_any (c : UInt8) (w : World) : Calls Tryz.prog 162 #[.int .u8 (c.toNat : Int)] w fun e w' => e = .returned (.int .i64 (signL c : Nat)) ∧ w' = w := by
 have HS := Lib.hid (show (signL c : Int) = (c.toNat : Int) from rfl)
 obtain ⟨x, hx⟩ : ∃ x : Int, (c.toNat : Int) = x := ⟨_, rfl⟩
 have hx0 : 0 ≤ x := by omega
 have hx1 : x ≤ 255 := by have := c.toNat_lt; omega
 rw [hx] at HS ⊢
 clear hx
 go_enter Tryz.func162, Tryz.ntmps162
 go_wp2
 go_ret
 exact ⟨by rw [HS.out]; rfl, rfl⟩
theorem signW_int (c : UInt8) : (signW c : Int) = if (c.toNat : Int) < 128 ∨ 160 ≤ (c.toNat : Int) then (c.toNat : Int) else (windowsT.getD (c.toNat - 128) 0 : Nat) := by
 unfold signW
 have e1 : (c < 128) ↔ (c.toNat : Int) < 128 := by
  rw [UInt8.lt_iff_toNat_lt]
  have h4 : (128 : UInt8).toNat = 128 := rfl
  omega
 have e2 : (160 ≤ c) ↔ 160 ≤ (c.toNat : Int) := by
  rw [UInt8.le_iff_toNat_le]
  have h4 : (160 : UInt8).toNat = 160 := rfl
  omega
 by_cases h : c < 128 ∨ 160 ≤ c
 ·rw [if_pos h, if_pos (h.imp e1.1 e2.1)]
 ·rw [if_neg h, if_neg (fun h2 => h (h2.imp e1.2 e2.2))]
def windowsA : Array Value := #[.int .i64 8364, .int .i64 129, .int .i64 8218, .int .i64 402, .int .i64 8222, .int .i64 8230, .int .i64 8224, .int .i64 8225, .int .i64 710, .int .i64 8240, .int .i64 352, .int .i64 8249, .int .i64 338, .int .i64 141, .int .i64 381, .int .i64 143, .int .i64 144, .int .i64 8216, .int .i64 8217, .int .i64 8220, .int .i64 8221, .int .i64 8226, .int .i64 8211, .int .i64 8212, .int .i64 732, .int .i64 8482, .int .i64 353, .int .i64 8250, .int .i64 339, .int .i64 157, .int .i64 382, .int .i64 376]
theorem wat_0 (W : World) : (Instr.index 174 (.agg windowsA) (.int .u8 0)).run Tryz.prog W = .ok (.int .i64 8364) W := by kernel_rfl
theorem wat_1 (W : World) : (Instr.index 174 (.agg windowsA) (.int .u8 1)).run Tryz.prog W = .ok (.int .i64 129) W := by kernel_rfl
theorem wat_2 (W : World) : (Instr.index 174 (.agg windowsA) (.int .u8 2)).run Tryz.prog W = .ok (.int .i64 8218) W := by kernel_rfl
theorem wat_3 (W : World) : (Instr.index 174 (.agg windowsA) (.int .u8 3)).run Tryz.prog W = .ok (.int .i64 402) W := by kernel_rfl
theorem wat_4 (W : World) : (Instr.index 174 (.agg windowsA) (.int .u8 4)).run Tryz.prog W = .ok (.int .i64 8222) W := by kernel_rfl
theorem wat_5 (W : World) : (Instr.index 174 (.agg windowsA) (.int .u8 5)).run Tryz.prog W = .ok (.int .i64 8230) W := by kernel_rfl
theorem wat_6 (W : World) : (Instr.index 174 (.agg windowsA) (.int .u8 6)).run Tryz.prog W = .ok (.int .i64 8224) W := by kernel_rfl
theorem wat_7 (W : World) : (Instr.index 174 (.agg windowsA) (.int .u8 7)).run Tryz.prog W = .ok (.int .i64 8225) W := by kernel_rfl
theorem wat_8 (W : World) : (Instr.index 174 (.agg windowsA) (.int .u8 8)).run Tryz.prog W = .ok (.int .i64 710) W := by kernel_rfl
theorem wat_9 (W : World) : (Instr.index 174 (.agg windowsA) (.int .u8 9)).run Tryz.prog W = .ok (.int .i64 8240) W := by kernel_rfl
theorem wat_10 (W : World) : (Instr.index 174 (.agg windowsA) (.int .u8 10)).run Tryz.prog W = .ok (.int .i64 352) W := by kernel_rfl
theorem wat_11 (W : World) : (Instr.index 174 (.agg windowsA) (.int .u8 11)).run Tryz.prog W = .ok (.int .i64 8249) W := by kernel_rfl
theorem wat_12 (W : World) : (Instr.index 174 (.agg windowsA) (.int .u8 12)).run Tryz.prog W = .ok (.int .i64 338) W := by kernel_rfl
theorem wat_13 (W : World) : (Instr.index 174 (.agg windowsA) (.int .u8 13)).run Tryz.prog W = .ok (.int .i64 141) W := by kernel_rfl
theorem wat_14 (W : World) : (Instr.index 174 (.agg windowsA) (.int .u8 14)).run Tryz.prog W = .ok (.int .i64 381) W := by kernel_rfl
theorem wat_15 (W : World) : (Instr.index 174 (.agg windowsA) (.int .u8 15)).run Tryz.prog W = .ok (.int .i64 143) W := by kernel_rfl
theorem wat_16 (W : World) : (Instr.index 174 (.agg windowsA) (.int .u8 16)).run Tryz.prog W = .ok (.int .i64 144) W := by kernel_rfl
theorem wat_17 (W : World) : (Instr.index 174 (.agg windowsA) (.int .u8 17)).run Tryz.prog W = .ok (.int .i64 8216) W := by kernel_rfl
theorem wat_18 (W : World) : (Instr.index 174 (.agg windowsA) (.int .u8 18)).run Tryz.prog W = .ok (.int .i64 8217) W := by kernel_rfl
theorem wat_19 (W : World) : (Instr.index 174 (.agg windowsA) (.int .u8 19)).run Tryz.prog W = .ok (.int .i64 8220) W := by kernel_rfl
theorem wat_20 (W : World) : (Instr.index 174 (.agg windowsA) (.int .u8 20)).run Tryz.prog W = .ok (.int .i64 8221) W := by kernel_rfl
theorem wat_21 (W : World) : (Instr.index 174 (.agg windowsA) (.int .u8 21)).run Tryz.prog W = .ok (.int .i64 8226) W := by kernel_rfl
theorem wat_22 (W : World) : (Instr.index 174 (.agg windowsA) (.int .u8 22)).run Tryz.prog W = .ok (.int .i64 8211) W := by kernel_rfl
theorem wat_23 (W : World) : (Instr.index 174 (.agg windowsA) (.int .u8 23)).run Tryz.prog W = .ok (.int .i64 8212) W := by kernel_rfl
theorem wat_24 (W : World) : (Instr.index 174 (.agg windowsA) (.int .u8 24)).run Tryz.prog W = .ok (.int .i64 732) W := by kernel_rfl
theorem wat_25 (W : World) : (Instr.index 174 (.agg windowsA) (.int .u8 25)).run Tryz.prog W = .ok (.int .i64 8482) W := by kernel_rfl
theorem wat_26 (W : World) : (Instr.index 174 (.agg windowsA) (.int .u8 26)).run Tryz.prog W = .ok (.int .i64 353) W := by kernel_rfl
theorem wat_27 (W : World) : (Instr.index 174 (.agg windowsA) (.int .u8 27)).run Tryz.prog W = .ok (.int .i64 8250) W := by kernel_rfl
theorem wat_28 (W : World) : (Instr.index 174 (.agg windowsA) (.int .u8 28)).run Tryz.prog W = .ok (.int .i64 339) W := by kernel_rfl
theorem wat_29 (W : World) : (Instr.index 174 (.agg windowsA) (.int .u8 29)).run Tryz.prog W = .ok (.int .i64 157) W := by kernel_rfl
theorem wat_30 (W : World) : (Instr.index 174 (.agg windowsA) (.int .u8 30)).run Tryz.prog W = .ok (.int .i64 382) W := by kernel_rfl
theorem wat_31 (W : World) : (Instr.index 174 (.agg windowsA) (.int .u8 31)).run Tryz.prog W = .ok (.int .i64 376) W := by kernel_rfl
theorem windows_at (j : Nat) (hj : j < 32) (W : World) : (Instr.index 174 (.agg windowsA) (.int .u8 (j : Int))).run Tryz.prog W = .ok (.int .i64 (windowsT.getD j 0 : Nat)) W := by
 match j, hj with
 | 0, _ => exact wat_0 W
 | 1, _ => exact wat_1 W
 | 2, _ => exact wat_2 W
 | 3, _ => exact wat_3 W
 | 4, _ => exact wat_4 W
 | 5, _ => exact wat_5 W
 | 6, _ => exact wat_6 W
 | 7, _ => exact wat_7 W
 | 8, _ => exact wat_8 W
 | 9, _ => exact wat_9 W
 | 10, _ => exact wat_10 W
 | 11, _ => exact wat_11 W
 | 12, _ => exact wat_12 W
 | 13, _ => exact wat_13 W
 | 14, _ => exact wat_14 W
 | 15, _ => exact wat_15 W
 | 16, _ => exact wat_16 W
 | 17, _ => exact wat_17 W
 | 18, _ => exact wat_18 W
 | 19, _ => exact wat_19 W
 | 20, _ => exact wat_20 W
 | 21, _ => exact wat_21 W
 | 22, _ => exact wat_22 W
 | 23, _ => exact wat_23 W
 | 24, _ => exact wat_24 W
 | 25, _ => exact wat_25 W
 | 26, _ => exact wat_26 W
 | 27, _ => exact wat_27 W
 | 28, _ => exact wat_28 W
 | 29, _ => exact wat_29 W
 | 30, _ => exact wat_30 W
 | 31, _ => exact wat_31 W
 | n + 32, h => exact absurd h (by omega)
set_option maxRecDepth 100000 in
theorem windows_any (c : UInt8) (w : World) : Calls Tryz.prog 94 #[.int .u8 (c.toNat : Int)] w fun e w' => e = .returned (.int .i64 (signW c : Nat)) ∧ w' = w := by
 have HS := Lib.hid (signW_int c)
 obtain ⟨x, hx⟩ : ∃ x : Int, (c.toNat : Int) = x := ⟨_, rfl⟩
 have hx0 : 0 ≤ x := by omega
 have hx1 : x ≤ 255 := by have := c.toNat_lt; omega
 have HX := Lib.hid hx
 rw [hx] at HS ⊢
 clear hx
 by_cases e1 : x < 128
 ·have g1 : decide (x < 128) = true := decide_eq_true e1
  have HV := Lib.hid (show (signW c : Int) = x by rw [HS.out, if_pos (.inl e1)])
  clear e1
  go_enter Tryz.func94, Tryz.ntmps94
  go_wp2
  go_ret
  exact ⟨by rw [HV.out]; rfl, rfl⟩
 have g1 : decide (x < 128) = false := decide_eq_false e1
 by_cases e2 : 160 ≤ x
 ·have g2 : decide (160 ≤ x) = true := decide_eq_true e2
  have HV := Lib.hid (show (signW c : Int) = x by rw [HS.out, if_pos (.inr e2)])
  go_enter Tryz.func94, Tryz.ntmps94
  go_wp2
  go_ret
  exact ⟨by rw [HV.out]; rfl, rfl⟩
 have g2 : decide (160 ≤ x) = false := decide_eq_false e2
 have hlo : 128 ≤ x := by omega
 have hhi : x ≤ 159 := by omega
 have hidx : ∀ W, (Instr.index 174 (.agg #[.int .i64 8364, .int .i64 129, .int .i64 8218, .int .i64 402, .int .i64 8222, .int .i64 8230, .int .i64 8224, .int .i64 8225, .int .i64 710, .int .i64 8240, .int .i64 352, .int .i64 8249, .int .i64 338, .int .i64 141, .int .i64 381, .int .i64 143, .int .i64 144, .int .i64 8216, .int .i64 8217, .int .i64 8220, .int .i64 8221, .int .i64 8226, .int .i64 8211, .int .i64 8212, .int .i64 732, .int .i64 8482, .int .i64 353, .int .i64 8250, .int .i64 339, .int .i64 157, .int .i64 382, .int .i64 376]) (.int .u8 (x - 128))).run Tryz.prog W = .ok (.int .i64 (windowsT.getD (c.toNat - 128) 0 : Nat)) W := fun W => by
  have h := windows_at (c.toNat - 128) (by have := HX.out; omega) W
  have e : ((c.toNat - 128 : Nat) : Int) = x - 128 := by have := HX.out; omega
  rw [e] at h
  exact h
 have HV := Lib.hid (show (signW c : Int) = (windowsT.getD (c.toNat - 128) 0 : Nat) by rw [HS.out, if_neg (by omega)])
 obtain ⟨v, hv⟩ : ∃ v, windowsT.getD (c.toNat - 128) 0 = v := ⟨_, rfl⟩
 rw [hv] at HV
 simp only [hv] at hidx
 clear hv
 go_enter Tryz.func94, Tryz.ntmps94
 go_wp2
 go_ret
 exact ⟨by rw [HV.out]; rfl, rfl⟩
theorem make_ints {m : Nat} (hm : m < 1099511627776) (W : World) : (Instr.makeSlice 46 (.int .i64 (m : Int)) (.int .i64 (m : Int))).run Tryz.prog W = .ok (.slice (some ⟨W.heap.size, 0, none⟩) m m) (W.alloc (.cells (madeCells #[.int .i64 0] m) 3)) := by
 obtain ⟨i0, hi, hz0, hz1, hz2⟩ := info_parts int_info
 have := run_make (P := Tryz.prog) W 46 3 i0 (.int .i64 0) Tryz.underlying46 hi hz0 .i64 .i64 (m : Int) (m : Int) (by omega) (by omega) (by rw [hz2]; omega) (by omega)
 rw [this, hz1, Nat.mul_one]
 rfl
def IntRow (w : World) (b : Nat) (l : List Int) : Prop := ∃ C T, w.heap[b]? = some (.cells C T (0, 0)) ∧ ∀ j (hj : j < l.length), C[j]? = some (.int .i64 l[j])
theorem IntRow.cell {w : World} {b : Nat} {l : List Int} (h : IntRow w b l) {j : Nat} (hj : j < l.length) : w.cell? ⟨b, j, none⟩ = some (.int .i64 l[j]) := by
 obtain ⟨C, T, h1, h2⟩ := h
 rw [← h2 j hj]
 unfold World.cell?
 rw [h1]
 simp
theorem IntRow.free {w : World} {b : Nat} {l : List Int} (h : IntRow w b l) (j : Nat) : w.frozen? ⟨b, j, none⟩ = false := by
 obtain ⟨C, T, h1, h2⟩ := h
 unfold World.frozen?
 rw [h1]
 simp
theorem IntRow.lt {w : World} {b : Nat} {l : List Int} (h : IntRow w b l) : b < w.heap.size := by
 obtain ⟨C, T, h1, _⟩ := h
 exact heap_lt h1
theorem IntRow.set {w : World} {b : Nat} {l : List Int} (h : IntRow w b l) {k : Nat} (hk : k < l.length) (v : Int) : IntRow (w.setCell ⟨b, k, none⟩ (.int .i64 v)) b (l.set k v) := by
 obtain ⟨C, T, h1, h2⟩ := h
 refine ⟨C.setIfInBounds k (.int .i64 v), T, heap_setCell_same w b k C T _ h1, fun j hj => ?_⟩
 rw [List.length_set] at hj
 rw [Array.getElem?_setIfInBounds, List.getElem_set]
 by_cases e : k = j
 ·subst e
  have := h2 k hk
  have hlt : k < C.size := (Array.getElem?_eq_some_iff.1 this).1
  simp [hlt]
 ·rw [if_neg e, if_neg e]
  exact h2 j hj
theorem IntRow.made (W : World) (m : Nat) (T : TypeId) : IntRow (W.alloc (.cells (madeCells #[.int .i64 0] m) T)) W.heap.size (List.replicate m 0) := by
 refine ⟨madeCells #[.int .i64 0] m, T, ?_, fun j hj => ?_⟩
 ·show (W.heap.push _)[W.heap.size]? = _
  simp
 ·rw [List.length_replicate] at hj
  rw [List.getElem_replicate]
  simp [madeCells, hj, Nat.mod_one]
theorem IntRow.ints {w : World} {b : Nat} {l : List Int} (h : IntRow w b l) (hb : I64s l) : Ints w w.heap.size (some ⟨b, 0, none⟩) l.length l := by
 refine ⟨rfl, hb, .inr ⟨_, rfl, h.lt, fun j u hu => ?_⟩⟩
 have hj : j < l.length := by have := (List.getElem?_eq_some_iff.1 hu).1; simpa [iv] using this
 have e : Addr.add ⟨b, 0, none⟩ j = ⟨b, j, none⟩ := by
  unfold Addr.add
  split
  ·rename_i h0; rw [h0]
  ·rw [Nat.zero_add]
 rw [e, h.cell hj]
 simp [iv, hj] at hu
 rw [← hu]
structure ByRel (w : World) (f : UInt8 → Nat) (l : List UInt8) (n k : Nat) (wr : World) : Prop where
 row : IntRow wr w.heap.size ((l.take k).map (fun c => (f c : Int)) ++ List.replicate (n - k) 0)
 bel : Below w.heap.size w wr
theorem by_set {f : UInt8 → Nat} {l : List UInt8} {n k : Nat} (hn : l.length = n) (hk : k < n) {c : UInt8} (hc : l[k]'(by omega) = c) :
  ((l.take k).map (fun c => (f c : Int)) ++ List.replicate (n - k) 0).set k (f c : Int) = (l.take (k + 1)).map (fun c => (f c : Int)) ++ List.replicate (n - (k + 1)) 0 := by
 have hl : ((l.take k).map (fun c => (f c : Int))).length = k := by rw [List.length_map, List.length_take]; omega
 rw [List.set_append_right _ _ (by rw [hl]; exact Nat.le_refl _), hl, show k - k = 0 by omega, show n - k = (n - (k + 1)) + 1 by omega, List.replicate_succ, List.set_cons_zero, List.take_succ_eq_append_getElem (by omega : k < l.length), List.map_append, List.append_assoc, hc]
 rfl
theorem bytesBy_eq (f : UInt8 → Nat) (l : List UInt8) : bytesBy f l = joinR (l.map fun c => (f c : Int)) := by
 unfold bytesBy joinR
 rw [List.flatMap_map]
theorem signA_bd (c : UInt8) : signA c ≤ 1114111 := by
 unfold signA
 split
 ·have := c.toNat_lt; omega
 ·decide
theorem signL_bd (c : UInt8) : signL c ≤ 1114111 := by unfold signL; have := c.toNat_lt; omega
theorem signW_bd (c : UInt8) : signW c ≤ 1114111 := u8_all (fun c => signW c ≤ 1114111) (by decide +kernel) c
set_option maxRecDepth 100000 in
theorem by_ascii (l : List UInt8) (b : Nat) (w : World) (hl : l.length ≤ 1000000000) (hc : w.cell? ⟨b, 0, none⟩ = some (.func (.func 161) #[] #[])) (hb : b < w.heap.size) :
  Calls Tryz.prog 163 #[.string (ba l), .pointer (some ⟨b, 0, none⟩)] w (StrB w (bytesBy signA l)) := by
 have HBY := Lib.hid (bytesBy_eq signA l)
 have HCC := Lib.hid (show ∀ W, Below w.heap.size w W → W.cell? ⟨b, 0, none⟩ = some (.func (.func 161) #[] #[]) from fun W h => (h.cell (p := ⟨b, 0, none⟩) hb).trans hc)
 clear hc
 obtain ⟨n, hn⟩ : ∃ n, l.length = n := ⟨_, rfl⟩
 have HL := Lib.hid hn
 obtain ⟨s, hs⟩ : ∃ s, ba l = s := ⟨_, rfl⟩
 have HS := Lib.hid hs
 have HZ := Lib.hid (show s.size = n by rw [← hs, ba_size, hn])
 have hsz : (s.size : Int) = n := by rw [HZ.out]
 rw [hs]
 rw [hn] at hl
 clear hs hn
 have hmk := make_ints (m := n) (by omega)
 have HROW := Lib.hid (IntRow.made w n 3)
 go_enter Tryz.func163, Tryz.ntmps163
 go_wp2
 clear hmk
 go_loopw [11] (fun i wr => ∃ k : Nat, k ≤ n ∧ i = .int .i64 (k : Int) ∧ Hid (ByRel w signA l n k wr)) (fun i _ => n - (intOf i).toNat)
 case atStart => exact ⟨0, Nat.zero_le _, rfl, Lib.hid ⟨HROW.out, (Below.refl _ _).alloc (Nat.le_refl _) _⟩⟩
 case round =>
  obtain ⟨k, hk, rfl, HR⟩ := hrel
  have hsz2 := HR.out.bel.size
  by_cases hlt : k < n
  ·have hk2 : (k : Int) < (n : Int) := by omega
   have hk0 : (0 : Int) ≤ (k : Int) := by omega
   have hks : k < s.size := by rw [HZ.out]; omega
   have hkl : k < l.length := by rw [HL.out]; omega
   have hget : s[k] = l[k] := by
    have h := HS.out
    subst h
    rfl
   have hkr : k < ((l.take k).map (fun c => (signA c : Int)) ++ List.replicate (n - k) 0).length := by rw [List.length_append, List.length_map, List.length_take, List.length_replicate]; omega
   have hcell := HR.out.row.cell hkr
   have hfree := HR.out.row.free k
   have HSET := Lib.hid (fun c => HR.out.row.set hkr ((signA c : Nat) : Int))
   have hcf := HCC.out wr HR.out.bel
   have HBY2 := Lib.hid (fun c hc => by_set (f := signA) (c := c) HL.out hlt hc)
   obtain ⟨c, hc⟩ : ∃ c, l[k] = c := ⟨_, rfl⟩
   have HBY3 := Lib.hid (HBY2.out c hc)
   rw [hc] at hget
   obtain ⟨x, hx⟩ : ∃ x : Int, (c.toNat : Int) = x := ⟨_, rfl⟩
   have hgi : ((s[k]).toNat : Int) = x := by rw [hget]; exact hx
   have hsg := ascii_any c
   rw [hx] at hsg
   obtain ⟨v, hv⟩ : ∃ v : Int, ((signA c : Nat) : Int) = v := ⟨_, rfl⟩
   have HV := Lib.hid hv
   rw [hv] at hsg
   have HsignA := Lib.hid hsg
   clear hc hkl hget hx hv hsg HBY2
   refine ?_
   go_wp2
   refine wp_region_tail 8 (by kernel_rfl) (by kernel_rfl) ?_
   simp only [List.take_succ_cons, List.take_zero, List.drop_succ_cons, List.drop_zero]
   repeat still_step
   still_call (HsignA.out _)
   repeat still_step
   try refine wpStill_nil ?_
   go_wp2
   go_roundw
   case rel =>
    refine ⟨k + 1, by omega, by go_num, Lib.hid ⟨?_, (HR.out.bel.drew).setCell (Nat.le_refl _) _⟩⟩
    rw [← HBY3.out, ← HV.out]
    exact HSET.out c
   case measure => simp [intOf] <;> omega
  ·obtain rfl : k = n := by omega
   have hrow : IntRow wr w.heap.size (l.map (fun c => (signA c : Int))) := by
    have := HR.out.row
    rw [List.take_of_length_le (by rw [HL.out]; exact Nat.le_refl _), show k - k = 0 by omega] at this
    simpa using this
   have hbds : ∀ x ∈ l.map (fun c => (signA c : Int)), 0 ≤ x ∧ x ≤ 1114111 := fun x hx => by
    obtain ⟨c, _, rfl⟩ := List.mem_map.1 hx
    have := signA_bd c
    omega
   have hin := hrow.ints (fun x hx => by have := hbds x hx; omega)
   rw [List.length_map, HL.out] at hin
   have HIN := Lib.hid hin
   have HBDS := Lib.hid hbds
   have HBE := Lib.hid HR.out.bel
   clear HR hrow hin hbds
   go_wp2_with fail
   refine (joined_any _ _ _ _ wr HIN.out HBDS.out hl).mono ?_
   rintro e w2 ⟨rfl, hb2⟩
   have HB2 := Lib.hid hb2
   clear hb2
   go_wp2
   go_ret
   exact str_fin (by rw [HBY.out]) (HBE.out.trans (HB2.out.mono hsz2))
set_option maxRecDepth 100000 in
theorem by_latin (l : List UInt8) (b : Nat) (w : World) (hl : l.length ≤ 1000000000) (hc : w.cell? ⟨b, 0, none⟩ = some (.func (.func 162) #[] #[])) (hb : b < w.heap.size) :
  Calls Tryz.prog 163 #[.string (ba l), .pointer (some ⟨b, 0, none⟩)] w (StrB w (bytesBy signL l)) := by
 have HBY := Lib.hid (bytesBy_eq signL l)
 have HCC := Lib.hid (show ∀ W, Below w.heap.size w W → W.cell? ⟨b, 0, none⟩ = some (.func (.func 162) #[] #[]) from fun W h => (h.cell (p := ⟨b, 0, none⟩) hb).trans hc)
 clear hc
 obtain ⟨n, hn⟩ : ∃ n, l.length = n := ⟨_, rfl⟩
 have HL := Lib.hid hn
 obtain ⟨s, hs⟩ : ∃ s, ba l = s := ⟨_, rfl⟩
 have HS := Lib.hid hs
 have HZ := Lib.hid (show s.size = n by rw [← hs, ba_size, hn])
 have hsz : (s.size : Int) = n := by rw [HZ.out]
 rw [hs]
 rw [hn] at hl
 clear hs hn
 have hmk := make_ints (m := n) (by omega)
 have HROW := Lib.hid (IntRow.made w n 3)
 go_enter Tryz.func163, Tryz.ntmps163
 go_wp2
 clear hmk
 go_loopw [11] (fun i wr => ∃ k : Nat, k ≤ n ∧ i = .int .i64 (k : Int) ∧ Hid (ByRel w signL l n k wr)) (fun i _ => n - (intOf i).toNat)
 case atStart => exact ⟨0, Nat.zero_le _, rfl, Lib.hid ⟨HROW.out, (Below.refl _ _).alloc (Nat.le_refl _) _⟩⟩
 case round =>
  obtain ⟨k, hk, rfl, HR⟩ := hrel
  have hsz2 := HR.out.bel.size
  by_cases hlt : k < n
  ·have hk2 : (k : Int) < (n : Int) := by omega
   have hk0 : (0 : Int) ≤ (k : Int) := by omega
   have hks : k < s.size := by rw [HZ.out]; omega
   have hkl : k < l.length := by rw [HL.out]; omega
   have hget : s[k] = l[k] := by
    have h := HS.out
    subst h
    rfl
   have hkr : k < ((l.take k).map (fun c => (signL c : Int)) ++ List.replicate (n - k) 0).length := by rw [List.length_append, List.length_map, List.length_take, List.length_replicate]; omega
   have hcell := HR.out.row.cell hkr
   have hfree := HR.out.row.free k
   have HSET := Lib.hid (fun c => HR.out.row.set hkr ((signL c : Nat) : Int))
   have hcf := HCC.out wr HR.out.bel
   have HBY2 := Lib.hid (fun c hc => by_set (f := signL) (c := c) HL.out hlt hc)
   obtain ⟨c, hc⟩ : ∃ c, l[k] = c := ⟨_, rfl⟩
   have HBY3 := Lib.hid (HBY2.out c hc)
   rw [hc] at hget
   obtain ⟨x, hx⟩ : ∃ x : Int, (c.toNat : Int) = x := ⟨_, rfl⟩
   have hgi : ((s[k]).toNat : Int) = x := by rw [hget]; exact hx
   have hsg := latin_any c
   rw [hx] at hsg
   obtain ⟨v, hv⟩ : ∃ v : Int, ((signL c : Nat) : Int) = v := ⟨_, rfl⟩
   have HV := Lib.hid hv
   rw [hv] at hsg
   have HsignL := Lib.hid hsg
   clear hc hkl hget hx hv hsg HBY2
   refine ?_
   go_wp2
   refine wp_region_tail 8 (by kernel_rfl) (by kernel_rfl) ?_
   simp only [List.take_succ_cons, List.take_zero, List.drop_succ_cons, List.drop_zero]
   repeat still_step
   still_call (HsignL.out _)
   repeat still_step
   try refine wpStill_nil ?_
   go_wp2
   go_roundw
   case rel =>
    refine ⟨k + 1, by omega, by go_num, Lib.hid ⟨?_, (HR.out.bel.drew).setCell (Nat.le_refl _) _⟩⟩
    rw [← HBY3.out, ← HV.out]
    exact HSET.out c
   case measure => simp [intOf] <;> omega
  ·obtain rfl : k = n := by omega
   have hrow : IntRow wr w.heap.size (l.map (fun c => (signL c : Int))) := by
    have := HR.out.row
    rw [List.take_of_length_le (by rw [HL.out]; exact Nat.le_refl _), show k - k = 0 by omega] at this
    simpa using this
   have hbds : ∀ x ∈ l.map (fun c => (signL c : Int)), 0 ≤ x ∧ x ≤ 1114111 := fun x hx => by
    obtain ⟨c, _, rfl⟩ := List.mem_map.1 hx
    have := signL_bd c
    omega
   have hin := hrow.ints (fun x hx => by have := hbds x hx; omega)
   rw [List.length_map, HL.out] at hin
   have HIN := Lib.hid hin
   have HBDS := Lib.hid hbds
   have HBE := Lib.hid HR.out.bel
   clear HR hrow hin hbds
   go_wp2_with fail
   refine (joined_any _ _ _ _ wr HIN.out HBDS.out hl).mono ?_
   rintro e w2 ⟨rfl, hb2⟩
   have HB2 := Lib.hid hb2
   clear hb2
   go_wp2
   go_ret
   exact str_fin (by rw [HBY.out]) (HBE.out.trans (HB2.out.mono hsz2))
set_option maxRecDepth 100000 in
theorem by_windows (l : List UInt8) (b : Nat) (w : World) (hl : l.length ≤ 1000000000) (hc : w.cell? ⟨b, 0, none⟩ = some (.func (.func 94) #[] #[])) (hb : b < w.heap.size) :
  Calls Tryz.prog 163 #[.string (ba l), .pointer (some ⟨b, 0, none⟩)] w (StrB w (bytesBy signW l)) := by
 have HBY := Lib.hid (bytesBy_eq signW l)
 have HCC := Lib.hid (show ∀ W, Below w.heap.size w W → W.cell? ⟨b, 0, none⟩ = some (.func (.func 94) #[] #[]) from fun W h => (h.cell (p := ⟨b, 0, none⟩) hb).trans hc)
 clear hc
 obtain ⟨n, hn⟩ : ∃ n, l.length = n := ⟨_, rfl⟩
 have HL := Lib.hid hn
 obtain ⟨s, hs⟩ : ∃ s, ba l = s := ⟨_, rfl⟩
 have HS := Lib.hid hs
 have HZ := Lib.hid (show s.size = n by rw [← hs, ba_size, hn])
 have hsz : (s.size : Int) = n := by rw [HZ.out]
 rw [hs]
 rw [hn] at hl
 clear hs hn
 have hmk := make_ints (m := n) (by omega)
 have HROW := Lib.hid (IntRow.made w n 3)
 go_enter Tryz.func163, Tryz.ntmps163
 go_wp2
 clear hmk
 go_loopw [11] (fun i wr => ∃ k : Nat, k ≤ n ∧ i = .int .i64 (k : Int) ∧ Hid (ByRel w signW l n k wr)) (fun i _ => n - (intOf i).toNat)
 case atStart => exact ⟨0, Nat.zero_le _, rfl, Lib.hid ⟨HROW.out, (Below.refl _ _).alloc (Nat.le_refl _) _⟩⟩
 case round =>
  obtain ⟨k, hk, rfl, HR⟩ := hrel
  have hsz2 := HR.out.bel.size
  by_cases hlt : k < n
  ·have hk2 : (k : Int) < (n : Int) := by omega
   have hk0 : (0 : Int) ≤ (k : Int) := by omega
   have hks : k < s.size := by rw [HZ.out]; omega
   have hkl : k < l.length := by rw [HL.out]; omega
   have hget : s[k] = l[k] := by
    have h := HS.out
    subst h
    rfl
   have hkr : k < ((l.take k).map (fun c => (signW c : Int)) ++ List.replicate (n - k) 0).length := by rw [List.length_append, List.length_map, List.length_take, List.length_replicate]; omega
   have hcell := HR.out.row.cell hkr
   have hfree := HR.out.row.free k
   have HSET := Lib.hid (fun c => HR.out.row.set hkr ((signW c : Nat) : Int))
   have hcf := HCC.out wr HR.out.bel
   have HBY2 := Lib.hid (fun c hc => by_set (f := signW) (c := c) HL.out hlt hc)
   obtain ⟨c, hc⟩ : ∃ c, l[k] = c := ⟨_, rfl⟩
   have HBY3 := Lib.hid (HBY2.out c hc)
   rw [hc] at hget
   obtain ⟨x, hx⟩ : ∃ x : Int, (c.toNat : Int) = x := ⟨_, rfl⟩
   have hgi : ((s[k]).toNat : Int) = x := by rw [hget]; exact hx
   have hsg := windows_any c
   rw [hx] at hsg
   obtain ⟨v, hv⟩ : ∃ v : Int, ((signW c : Nat) : Int) = v := ⟨_, rfl⟩
   have HV := Lib.hid hv
   rw [hv] at hsg
   have HsignW := Lib.hid hsg
   clear hc hkl hget hx hv hsg HBY2
   refine ?_
   go_wp2
   refine wp_region_tail 8 (by kernel_rfl) (by kernel_rfl) ?_
   simp only [List.take_succ_cons, List.take_zero, List.drop_succ_cons, List.drop_zero]
   repeat still_step
   still_call (HsignW.out _)
   repeat still_step
   try refine wpStill_nil ?_
   go_wp2
   go_roundw
   case rel =>
    refine ⟨k + 1, by omega, by go_num, Lib.hid ⟨?_, (HR.out.bel.drew).setCell (Nat.le_refl _) _⟩⟩
    rw [← HBY3.out, ← HV.out]
    exact HSET.out c
   case measure => simp [intOf] <;> omega
  ·obtain rfl : k = n := by omega
   have hrow : IntRow wr w.heap.size (l.map (fun c => (signW c : Int))) := by
    have := HR.out.row
    rw [List.take_of_length_le (by rw [HL.out]; exact Nat.le_refl _), show k - k = 0 by omega] at this
    simpa using this
   have hbds : ∀ x ∈ l.map (fun c => (signW c : Int)), 0 ≤ x ∧ x ≤ 1114111 := fun x hx => by
    obtain ⟨c, _, rfl⟩ := List.mem_map.1 hx
    have := signW_bd c
    omega
   have hin := hrow.ints (fun x hx => by have := hbds x hx; omega)
   rw [List.length_map, HL.out] at hin
   have HIN := Lib.hid hin
   have HBDS := Lib.hid hbds
   have HBE := Lib.hid HR.out.bel
   clear HR hrow hin hbds
   go_wp2_with fail
   refine (joined_any _ _ _ _ wr HIN.out HBDS.out hl).mono ?_
   rintro e w2 ⟨rfl, hb2⟩
   have HB2 := Lib.hid hb2
   clear hb2
   go_wp2
   go_ret
   exact str_fin (by rw [HBY.out]) (HBE.out.trans (HB2.out.mono hsz2))
end Go.Proofs.YthidbmeaccpjdaaGreatDoor
