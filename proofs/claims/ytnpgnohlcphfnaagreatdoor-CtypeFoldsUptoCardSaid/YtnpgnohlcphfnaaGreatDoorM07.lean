/- Layer 4: the contracts of what bytewise makes (printed by gen_bytewise.py). Maps of the call's own, told key by key (no range): strings and spots as keys. The contract of small (charset). Layer 4: the contracts of readers and Decode. Layer 12: the contracts of letter and word. Layer 12: the contracts of strings.Cut at one byte, split, meant and open. -/
import Derived.Maps.OwnSet
import Derived.Maps.OwnOps
import Derived.Maps.Views
import Derived.WideKeyEntry
import Derived.DeepKeys4
import Derived.Test.YtnpgnohlcphfnaaGreatDoorM06
import Derived.Test.YtnpgnohlcphfnaaGreatDoorM01
import Derived.Test.YtnpgnohlcphfnaaGreatDoorM03
import Derived.Test.YtnpgnohlcphfnaaGreatDoorM02
section
namespace Go.Proofs.YtnpgnohlcphfnaaGreatDoor
open Go.RowKit
set_option linter.unusedVariables false

theorem make_ints {m : Nat} (hm : m < 1099511627776) (W : World) : (Instr.makeSlice 41 (.int .i64 (m : Int)) (.int .i64 (m : Int))).run Tryz.prog W = .ok (.slice (some ⟨W.heap.size, 0, none⟩) m m) (W.alloc (.cells (madeCells #[.int .i64 0] m) 3)) := by
  obtain ⟨i0, hi, hz0, hz1, hz2⟩ := info_parts int_info
  have := run_make (P := Tryz.prog) W 41 3 i0 (.int .i64 0) Tryz.underlying41 hi hz0 .i64 .i64 (m : Int) (m : Int) (by omega) (by omega) (by rw [hz2]; omega) (by omega)
  rw [this, hz1, Nat.mul_one]
  rfl
/-- Block b holds the integers l. -/
def IntRow (w : World) (b : Nat) (l : List Int) : Prop := ∃ C T, w.heap[b]? = some (.cells C T (0, 0)) ∧ ∀ j (hj : j < l.length), C[j]? = some (.int .i64 l[j])
theorem IntRow.cell {w : World} {b : Nat} {l : List Int} (h : IntRow w b l) {j : Nat} (hj : j < l.length) : w.cell? ⟨b, j, none⟩ = some (.int .i64 l[j]) := by
  obtain ⟨C, T, h1, h2⟩ := h
  rw [← h2 j hj]
  unfold World.cell?
  rw [h1]
  simp
theorem IntRow.free {w : World} {b : Nat} {l : List Int} (h : IntRow w b l) (j : Nat) : w.frozen? ⟨b, j, none⟩ = false := by
  obtain ⟨C, T, h1, h2⟩ := h
  unfold World.frozen?
  rw [h1]
  simp
theorem IntRow.lt {w : World} {b : Nat} {l : List Int} (h : IntRow w b l) : b < w.heap.size := by
  obtain ⟨C, T, h1, _⟩ := h
  exact heap_lt h1
theorem IntRow.set {w : World} {b : Nat} {l : List Int} (h : IntRow w b l) {k : Nat} (hk : k < l.length) (v : Int) : IntRow (w.setCell ⟨b, k, none⟩ (.int .i64 v)) b (l.set k v) := by
  obtain ⟨C, T, h1, h2⟩ := h
  refine ⟨C.setIfInBounds k (.int .i64 v), T, heap_setCell_same w b k C T _ h1, fun j hj => ?_⟩
  rw [List.length_set] at hj
  rw [Array.getElem?_setIfInBounds, List.getElem_set]
  by_cases e : k = j
  · subst e
    have := h2 k hk
    have hlt : k < C.size := (Array.getElem?_eq_some_iff.1 this).1
    simp [hlt]
  · rw [if_neg e, if_neg e]
    exact h2 j hj
theorem IntRow.made (W : World) (m : Nat) (T : TypeId) : IntRow (W.alloc (.cells (madeCells #[.int .i64 0] m) T)) W.heap.size (List.replicate m 0) := by
  refine ⟨madeCells #[.int .i64 0] m, T, ?_, fun j hj => ?_⟩
  · show (W.heap.push _)[W.heap.size]? = _
    simp
  · rw [List.length_replicate] at hj
    rw [List.getElem_replicate]
    simp [madeCells, hj, Nat.mod_one]
theorem IntRow.ints {w : World} {b : Nat} {l : List Int} (h : IntRow w b l) (hb : I64s l) : Ints w w.heap.size (some ⟨b, 0, none⟩) l.length l := by
  refine ⟨rfl, hb, .inr ⟨_, rfl, h.lt, fun j u hu => ?_⟩⟩
  have hj : j < l.length := by have := (List.getElem?_eq_some_iff.1 hu).1; simpa [iv] using this
  have e : Addr.add ⟨b, 0, none⟩ j = ⟨b, j, none⟩ := by
    unfold Addr.add
    split
    · rename_i h0; rw [h0]
    · rw [Nat.zero_add]
  rw [e, h.cell hj]
  simp [iv, hj] at hu
  rw [← hu]
/-- The state of the loop: k code points are laid. -/
structure ByRel (w : World) (f : UInt8 → Nat) (l : List UInt8) (n k : Nat) (wr : World) : Prop where
  row : IntRow wr w.heap.size ((l.take k).map (fun c => (f c : Int)) ++ List.replicate (n - k) 0)
  bel : Below w.heap.size w wr
theorem by_set {f : UInt8 → Nat} {l : List UInt8} {n k : Nat} (hn : l.length = n) (hk : k < n) {c : UInt8} (hc : l[k]'(by omega) = c) :
    ((l.take k).map (fun c => (f c : Int)) ++ List.replicate (n - k) 0).set k (f c : Int) = (l.take (k + 1)).map (fun c => (f c : Int)) ++ List.replicate (n - (k + 1)) 0 := by
  have hl : ((l.take k).map (fun c => (f c : Int))).length = k := by rw [List.length_map, List.length_take]; omega
  rw [List.set_append_right _ _ (by rw [hl]; exact Nat.le_refl _), hl, show k - k = 0 by omega, show n - k = (n - (k + 1)) + 1 by omega, List.replicate_succ, List.set_cons_zero, List.take_succ_eq_append_getElem (by omega : k < l.length), List.map_append, List.append_assoc, hc]
  rfl
theorem bytesBy_eq (f : UInt8 → Nat) (l : List UInt8) : bytesBy f l = joinR (l.map fun c => (f c : Int)) := by
  unfold bytesBy joinR
  rw [List.flatMap_map]
theorem signA_bd (c : UInt8) : signA c ≤ 1114111 := by
  unfold signA
  split
  · have := c.toNat_lt; omega
  · decide
theorem signL_bd (c : UInt8) : signL c ≤ 1114111 := by unfold signL; have := c.toNat_lt; omega
theorem signW_bd (c : UInt8) : signW c ≤ 1114111 := u8_all (fun c => signW c ≤ 1114111) (by decide +kernel) c
set_option maxRecDepth 100000 in
set_option maxHeartbeats 4000000 in
theorem by_ascii (l : List UInt8) (b : Nat) (w : World) (hl : l.length ≤ 1000000000) (hc : w.cell? ⟨b, 0, none⟩ = some (.func (.func 210) #[] #[])) (hb : b < w.heap.size) :
    Calls Tryz.prog 212 #[.string (ba l), .pointer (some ⟨b, 0, none⟩)] w (StrB w (bytesBy signA l)) := by
  have HBY := Lib.hid (bytesBy_eq signA l)
  have HCC := Lib.hid (show ∀ W, Below w.heap.size w W → W.cell? ⟨b, 0, none⟩ = some (.func (.func 210) #[] #[]) from fun W h => (h.cell (p := ⟨b, 0, none⟩) hb).trans hc)
  clear hc
  obtain ⟨n, hn⟩ : ∃ n, l.length = n := ⟨_, rfl⟩
  have HL := Lib.hid hn
  obtain ⟨s, hs⟩ : ∃ s, ba l = s := ⟨_, rfl⟩
  have HS := Lib.hid hs
  have HZ := Lib.hid (show s.size = n by rw [← hs, ba_size, hn])
  have hsz : (s.size : Int) = n := by rw [HZ.out]
  rw [hs]
  rw [hn] at hl
  clear hs hn
  have hmk := make_ints (m := n) (by omega)
  have HROW := Lib.hid (IntRow.made w n 3)
  go_enter Tryz.func212, Tryz.ntmps212
  go_wp2
  clear hmk
  go_loopw [11] (fun i wr => ∃ k : Nat, k ≤ n ∧ i = .int .i64 (k : Int) ∧ Hid (ByRel w signA l n k wr)) (fun i _ => n - (intOf i).toNat)
  case atStart => exact ⟨0, Nat.zero_le _, rfl, Lib.hid ⟨HROW.out, (Below.refl _ _).alloc (Nat.le_refl _) _⟩⟩
  case round =>
    obtain ⟨k, hk, rfl, HR⟩ := hrel
    have hsz2 := HR.out.bel.size
    by_cases hlt : k < n
    · have hk2 : (k : Int) < (n : Int) := by omega
      have hk0 : (0 : Int) ≤ (k : Int) := by omega
      have hks : k < s.size := by rw [HZ.out]; omega
      have hkl : k < l.length := by rw [HL.out]; omega
      have hget : s[k] = l[k] := by
        have h := HS.out
        subst h
        rfl
      have hkr : k < ((l.take k).map (fun c => (signA c : Int)) ++ List.replicate (n - k) 0).length := by rw [List.length_append, List.length_map, List.length_take, List.length_replicate]; omega
      have hcell := HR.out.row.cell hkr
      have hfree := HR.out.row.free k
      have HSET := Lib.hid (fun c => HR.out.row.set hkr ((signA c : Nat) : Int))
      have hcf := HCC.out wr HR.out.bel
      have HBY2 := Lib.hid (fun c hc => by_set (f := signA) (c := c) HL.out hlt hc)
      obtain ⟨c, hc⟩ : ∃ c, l[k] = c := ⟨_, rfl⟩
      have HBY3 := Lib.hid (HBY2.out c hc)
      rw [hc] at hget
      obtain ⟨x, hx⟩ : ∃ x : Int, (c.toNat : Int) = x := ⟨_, rfl⟩
      have hgi : ((s[k]).toNat : Int) = x := by rw [hget]; exact hx
      have hsg := ascii_any c
      rw [hx] at hsg
      obtain ⟨v, hv⟩ : ∃ v : Int, ((signA c : Nat) : Int) = v := ⟨_, rfl⟩
      have HV := Lib.hid hv
      rw [hv] at hsg
      have HsignA := Lib.hid hsg
      clear hc hkl hget hx hv hsg HBY2
      refine ?_
      go_wp2
      refine wp_region_tail 8 (by kernel_rfl) (by kernel_rfl) ?_
      simp only [List.take_succ_cons, List.take_zero, List.drop_succ_cons, List.drop_zero]
      repeat still_step
      still_call (HsignA.out _)
      repeat still_step
      try refine wpStill_nil ?_
      go_wp2
      go_roundw
      case rel =>
        refine ⟨k + 1, by omega, by go_num, Lib.hid ⟨?_, (HR.out.bel.drew).setCell (Nat.le_refl _) _⟩⟩
        rw [← HBY3.out, ← HV.out]
        exact HSET.out c
      case measure => simp [intOf] <;> omega
    · obtain rfl : k = n := by omega
      have hrow : IntRow wr w.heap.size (l.map (fun c => (signA c : Int))) := by
        have := HR.out.row
        rw [List.take_of_length_le (by rw [HL.out]; exact Nat.le_refl _), show k - k = 0 by omega] at this
        simpa using this
      have hbds : ∀ x ∈ l.map (fun c => (signA c : Int)), 0 ≤ x ∧ x ≤ 1114111 := fun x hx => by
        obtain ⟨c, _, rfl⟩ := List.mem_map.1 hx
        have := signA_bd c
        omega
      have hin := hrow.ints (fun x hx => by have := hbds x hx; omega)
      rw [List.length_map, HL.out] at hin
      have HIN := Lib.hid hin
      have HBDS := Lib.hid hbds
      have HBE := Lib.hid HR.out.bel
      clear HR hrow hin hbds
      go_wp2_with fail
      refine (joined_any _ _ _ _ wr HIN.out HBDS.out hl).mono ?_
      rintro e w2 ⟨rfl, hb2⟩
      have HB2 := Lib.hid hb2
      clear hb2
      go_wp2
      go_ret
      exact str_fin (by rw [HBY.out]) (HBE.out.trans (HB2.out.mono hsz2))
set_option maxRecDepth 100000 in
set_option maxHeartbeats 4000000 in
theorem by_latin (l : List UInt8) (b : Nat) (w : World) (hl : l.length ≤ 1000000000) (hc : w.cell? ⟨b, 0, none⟩ = some (.func (.func 211) #[] #[])) (hb : b < w.heap.size) :
    Calls Tryz.prog 212 #[.string (ba l), .pointer (some ⟨b, 0, none⟩)] w (StrB w (bytesBy signL l)) := by
  have HBY := Lib.hid (bytesBy_eq signL l)
  have HCC := Lib.hid (show ∀ W, Below w.heap.size w W → W.cell? ⟨b, 0, none⟩ = some (.func (.func 211) #[] #[]) from fun W h => (h.cell (p := ⟨b, 0, none⟩) hb).trans hc)
  clear hc
  obtain ⟨n, hn⟩ : ∃ n, l.length = n := ⟨_, rfl⟩
  have HL := Lib.hid hn
  obtain ⟨s, hs⟩ : ∃ s, ba l = s := ⟨_, rfl⟩
  have HS := Lib.hid hs
  have HZ := Lib.hid (show s.size = n by rw [← hs, ba_size, hn])
  have hsz : (s.size : Int) = n := by rw [HZ.out]
  rw [hs]
  rw [hn] at hl
  clear hs hn
  have hmk := make_ints (m := n) (by omega)
  have HROW := Lib.hid (IntRow.made w n 3)
  go_enter Tryz.func212, Tryz.ntmps212
  go_wp2
  clear hmk
  go_loopw [11] (fun i wr => ∃ k : Nat, k ≤ n ∧ i = .int .i64 (k : Int) ∧ Hid (ByRel w signL l n k wr)) (fun i _ => n - (intOf i).toNat)
  case atStart => exact ⟨0, Nat.zero_le _, rfl, Lib.hid ⟨HROW.out, (Below.refl _ _).alloc (Nat.le_refl _) _⟩⟩
  case round =>
    obtain ⟨k, hk, rfl, HR⟩ := hrel
    have hsz2 := HR.out.bel.size
    by_cases hlt : k < n
    · have hk2 : (k : Int) < (n : Int) := by omega
      have hk0 : (0 : Int) ≤ (k : Int) := by omega
      have hks : k < s.size := by rw [HZ.out]; omega
      have hkl : k < l.length := by rw [HL.out]; omega
      have hget : s[k] = l[k] := by
        have h := HS.out
        subst h
        rfl
      have hkr : k < ((l.take k).map (fun c => (signL c : Int)) ++ List.replicate (n - k) 0).length := by rw [List.length_append, List.length_map, List.length_take, List.length_replicate]; omega
      have hcell := HR.out.row.cell hkr
      have hfree := HR.out.row.free k
      have HSET := Lib.hid (fun c => HR.out.row.set hkr ((signL c : Nat) : Int))
      have hcf := HCC.out wr HR.out.bel
      have HBY2 := Lib.hid (fun c hc => by_set (f := signL) (c := c) HL.out hlt hc)
      obtain ⟨c, hc⟩ : ∃ c, l[k] = c := ⟨_, rfl⟩
      have HBY3 := Lib.hid (HBY2.out c hc)
      rw [hc] at hget
      obtain ⟨x, hx⟩ : ∃ x : Int, (c.toNat : Int) = x := ⟨_, rfl⟩
      have hgi : ((s[k]).toNat : Int) = x := by rw [hget]; exact hx
      have hsg := latin_any c
      rw [hx] at hsg
      obtain ⟨v, hv⟩ : ∃ v : Int, ((signL c : Nat) : Int) = v := ⟨_, rfl⟩
      have HV := Lib.hid hv
      rw [hv] at hsg
      have HsignL := Lib.hid hsg
      clear hc hkl hget hx hv hsg HBY2
      refine ?_
      go_wp2
      refine wp_region_tail 8 (by kernel_rfl) (by kernel_rfl) ?_
      simp only [List.take_succ_cons, List.take_zero, List.drop_succ_cons, List.drop_zero]
      repeat still_step
      still_call (HsignL.out _)
      repeat still_step
      try refine wpStill_nil ?_
      go_wp2
      go_roundw
      case rel =>
        refine ⟨k + 1, by omega, by go_num, Lib.hid ⟨?_, (HR.out.bel.drew).setCell (Nat.le_refl _) _⟩⟩
        rw [← HBY3.out, ← HV.out]
        exact HSET.out c
      case measure => simp [intOf] <;> omega
    · obtain rfl : k = n := by omega
      have hrow : IntRow wr w.heap.size (l.map (fun c => (signL c : Int))) := by
        have := HR.out.row
        rw [List.take_of_length_le (by rw [HL.out]; exact Nat.le_refl _), show k - k = 0 by omega] at this
        simpa using this
      have hbds : ∀ x ∈ l.map (fun c => (signL c : Int)), 0 ≤ x ∧ x ≤ 1114111 := fun x hx => by
        obtain ⟨c, _, rfl⟩ := List.mem_map.1 hx
        have := signL_bd c
        omega
      have hin := hrow.ints (fun x hx => by have := hbds x hx; omega)
      rw [List.length_map, HL.out] at hin
      have HIN := Lib.hid hin
      have HBDS := Lib.hid hbds
      have HBE := Lib.hid HR.out.bel
      clear HR hrow hin hbds
      go_wp2_with fail
      refine (joined_any _ _ _ _ wr HIN.out HBDS.out hl).mono ?_
      rintro e w2 ⟨rfl, hb2⟩
      have HB2 := Lib.hid hb2
      clear hb2
      go_wp2
      go_ret
      exact str_fin (by rw [HBY.out]) (HBE.out.trans (HB2.out.mono hsz2))
set_option maxRecDepth 100000 in
set_option maxHeartbeats 4000000 in
theorem by_windows (l : List UInt8) (b : Nat) (w : World) (hl : l.length ≤ 1000000000) (hc : w.cell? ⟨b, 0, none⟩ = some (.func (.func 180) #[] #[])) (hb : b < w.heap.size) :
    Calls Tryz.prog 212 #[.string (ba l), .pointer (some ⟨b, 0, none⟩)] w (StrB w (bytesBy signW l)) := by
  have HBY := Lib.hid (bytesBy_eq signW l)
  have HCC := Lib.hid (show ∀ W, Below w.heap.size w W → W.cell? ⟨b, 0, none⟩ = some (.func (.func 180) #[] #[]) from fun W h => (h.cell (p := ⟨b, 0, none⟩) hb).trans hc)
  clear hc
  obtain ⟨n, hn⟩ : ∃ n, l.length = n := ⟨_, rfl⟩
  have HL := Lib.hid hn
  obtain ⟨s, hs⟩ : ∃ s, ba l = s := ⟨_, rfl⟩
  have HS := Lib.hid hs
  have HZ := Lib.hid (show s.size = n by rw [← hs, ba_size, hn])
  have hsz : (s.size : Int) = n := by rw [HZ.out]
  rw [hs]
  rw [hn] at hl
  clear hs hn
  have hmk := make_ints (m := n) (by omega)
  have HROW := Lib.hid (IntRow.made w n 3)
  go_enter Tryz.func212, Tryz.ntmps212
  go_wp2
  clear hmk
  go_loopw [11] (fun i wr => ∃ k : Nat, k ≤ n ∧ i = .int .i64 (k : Int) ∧ Hid (ByRel w signW l n k wr)) (fun i _ => n - (intOf i).toNat)
  case atStart => exact ⟨0, Nat.zero_le _, rfl, Lib.hid ⟨HROW.out, (Below.refl _ _).alloc (Nat.le_refl _) _⟩⟩
  case round =>
    obtain ⟨k, hk, rfl, HR⟩ := hrel
    have hsz2 := HR.out.bel.size
    by_cases hlt : k < n
    · have hk2 : (k : Int) < (n : Int) := by omega
      have hk0 : (0 : Int) ≤ (k : Int) := by omega
      have hks : k < s.size := by rw [HZ.out]; omega
      have hkl : k < l.length := by rw [HL.out]; omega
      have hget : s[k] = l[k] := by
        have h := HS.out
        subst h
        rfl
      have hkr : k < ((l.take k).map (fun c => (signW c : Int)) ++ List.replicate (n - k) 0).length := by rw [List.length_append, List.length_map, List.length_take, List.length_replicate]; omega
      have hcell := HR.out.row.cell hkr
      have hfree := HR.out.row.free k
      have HSET := Lib.hid (fun c => HR.out.row.set hkr ((signW c : Nat) : Int))
      have hcf := HCC.out wr HR.out.bel
      have HBY2 := Lib.hid (fun c hc => by_set (f := signW) (c := c) HL.out hlt hc)
      obtain ⟨c, hc⟩ : ∃ c, l[k] = c := ⟨_, rfl⟩
      have HBY3 := Lib.hid (HBY2.out c hc)
      rw [hc] at hget
      obtain ⟨x, hx⟩ : ∃ x : Int, (c.toNat : Int) = x := ⟨_, rfl⟩
      have hgi : ((s[k]).toNat : Int) = x := by rw [hget]; exact hx
      have hsg := windows_any c
      rw [hx] at hsg
      obtain ⟨v, hv⟩ : ∃ v : Int, ((signW c : Nat) : Int) = v := ⟨_, rfl⟩
      have HV := Lib.hid hv
      rw [hv] at hsg
      have HsignW := Lib.hid hsg
      clear hc hkl hget hx hv hsg HBY2
      refine ?_
      go_wp2
      refine wp_region_tail 8 (by kernel_rfl) (by kernel_rfl) ?_
      simp only [List.take_succ_cons, List.take_zero, List.drop_succ_cons, List.drop_zero]
      repeat still_step
      still_call (HsignW.out _)
      repeat still_step
      try refine wpStill_nil ?_
      go_wp2
      go_roundw
      case rel =>
        refine ⟨k + 1, by omega, by go_num, Lib.hid ⟨?_, (HR.out.bel.drew).setCell (Nat.le_refl _) _⟩⟩
        rw [← HBY3.out, ← HV.out]
        exact HSET.out c
      case measure => simp [intOf] <;> omega
    · obtain rfl : k = n := by omega
      have hrow : IntRow wr w.heap.size (l.map (fun c => (signW c : Int))) := by
        have := HR.out.row
        rw [List.take_of_length_le (by rw [HL.out]; exact Nat.le_refl _), show k - k = 0 by omega] at this
        simpa using this
      have hbds : ∀ x ∈ l.map (fun c => (signW c : Int)), 0 ≤ x ∧ x ≤ 1114111 := fun x hx => by
        obtain ⟨c, _, rfl⟩ := List.mem_map.1 hx
        have := signW_bd c
        omega
      have hin := hrow.ints (fun x hx => by have := hbds x hx; omega)
      rw [List.length_map, HL.out] at hin
      have HIN := Lib.hid hin
      have HBDS := Lib.hid hbds
      have HBE := Lib.hid HR.out.bel
      clear HR hrow hin hbds
      go_wp2_with fail
      refine (joined_any _ _ _ _ wr HIN.out HBDS.out hl).mono ?_
      rintro e w2 ⟨rfl, hb2⟩
      have HB2 := Lib.hid hb2
      clear hb2
      go_wp2
      go_ret
      exact str_fin (by rw [HBY.out]) (HBE.out.trans (HB2.out.mono hsz2))
end Go.Proofs.YtnpgnohlcphfnaaGreatDoor
end
section
namespace Go.Proofs.YtnpgnohlcphfnaaGreatDoor
open Go.RowKit
set_option linter.unusedVariables false

/-- Elements of a map are read as they are. -/
def asIs (v : Value) : Option (DataW Value × List MemPlace) := some (.held v, [])
/-- A kind of keys: their values, which fit, their literals. -/
structure KeyL (k : TypeId) (κ : Type) where
  kv : κ → Value
  fits : κ → Prop
  kk : κ → Lit
  keyed : Maps.Keyed Tryz.prog k
  of : ∀ x, fits x → keyOf Tryz.prog k (kv x) = some (kk x)
  inj : ∀ x y, fits x → fits y → kk x = kk y → x = y
/-- Block b is a map: the key x leads to f x. -/
def MapL {k : TypeId} {κ : Type} (K : KeyL k κ) (w : World) (b : Nat) (f : κ → Option Value) (c : Nat) : Prop :=
  ∃ D, w.ownsMap Tryz.prog k asIs b c D ∧ ∀ x, K.fits x → ∀ z, D.atKey (K.kk x) z = match f x with | some v => .held v | none => z
theorem ownsMap_block {H : Type} {P : Program} {k : TypeId} {R : Value → Option (DataW H × List MemPlace)} {w w' : World} {b n : Nat} {D : DataW H} (h : w.ownsMap P k R b n D) (hb : w'.heap[b]? = w.heap[b]?) : w'.ownsMap P k R b n D := by
  obtain ⟨es, clock, h1, h2⟩ := h
  exact ⟨es, clock, hb.trans h1, h2⟩
section
variable {k : TypeId} {κ : Type} {K : KeyL k κ} {w w' : World} {b c : Nat} {f : κ → Option Value}
theorem MapL.keep (h : MapL K w b f c) (hb : w'.heap[b]? = w.heap[b]?) : MapL K w' b f c := by
  obtain ⟨D, h1, h2⟩ := h; exact ⟨D, ownsMap_block h1 hb, h2⟩
theorem MapL.lt (h : MapL K w b f c) : b < w.heap.size := by obtain ⟨D, h1, _⟩ := h; exact h1.lt
theorem MapL.below (h : MapL K w b f c) (hb : Below w.heap.size w w') : MapL K w' b f c := h.keep (hb.block b h.lt)
theorem MapL.mono (h : MapL K w b f c) {c' : Nat} (hc : c ≤ c') : MapL K w b f c' := by
  obtain ⟨D, h1, h2⟩ := h; exact ⟨D, h1.mono hc, h2⟩
theorem MapL.congr (h : MapL K w b f c) {g : κ → Option Value} (hg : ∀ x, K.fits x → g x = f x) : MapL K w b g c := by
  obtain ⟨D, h1, h2⟩ := h; exact ⟨D, h1, fun x hx z => by rw [hg x hx]; exact h2 x hx z⟩
theorem MapL.made (K : KeyL k κ) (w : World) : MapL K (w.alloc (.map #[] 0)) w.heap.size (fun _ => none) 0 := ⟨_, World.ownsMap_made _ _ _ _, fun _ _ _ => rfl⟩
theorem MapL.look {t e : TypeId} (h : MapL K w b f c) (ht : Tryz.prog.underlying t = some (.map k e)) {z : Value} (hz : (zeroValue e).run Tryz.prog w = .ok z w) {x : κ} (hx : K.fits x) :
    (Instr.lookup t (.map (some b)) (K.kv x) false).run Tryz.prog w = .ok ((f x).getD z) w := by
  obtain ⟨D, h1, h2⟩ := h
  obtain ⟨v, ps, hrun, hv⟩ := h1.lookup K.keyed ht hz (zd := .held z) (zp := []) rfl (K.of x hx)
  rw [h2 x hx] at hv
  rw [hrun]
  unfold asIs at hv
  cases hn : f x with
  | none => rw [hn] at hv; simp only [Option.some.injEq, Prod.mk.injEq, DataW.held.injEq] at hv; rw [hv.1]; rfl
  | some g => rw [hn] at hv; simp only [Option.some.injEq, Prod.mk.injEq, DataW.held.injEq] at hv; rw [hv.1]; rfl
theorem MapL.look_ok {t e : TypeId} (h : MapL K w b f c) (ht : Tryz.prog.underlying t = some (.map k e)) {z : Value} (hz : (zeroValue e).run Tryz.prog w = .ok z w) {x : κ} (hx : K.fits x) :
    (Instr.lookup t (.map (some b)) (K.kv x) true).run Tryz.prog w = .ok (.tuple #[(f x).getD z, .bool (f x).isSome]) w := by
  obtain ⟨D, h1, h2⟩ := h
  obtain ⟨v, ps, hrun, hv⟩ := h1.look_ok K.keyed ht hz (zd := .held z) (zp := []) rfl (K.of x hx)
  have h3 := h2 x hx
  rw [h3] at hv
  rw [hrun]
  unfold asIs at hv
  cases hn : f x with
  | none =>
    rw [hn] at hv h3
    simp only [Option.some.injEq, Prod.mk.injEq, DataW.held.injEq] at hv
    rw [hv.1, Maps.has_false_of_atKey h3]
    rfl
  | some g =>
    rw [hn] at hv h3
    simp only [Option.some.injEq, Prod.mk.injEq, DataW.held.injEq] at hv
    rw [hv.1, Maps.has_true_of_atKey h3]
    rfl
open Classical in
/-- One key set. -/
noncomputable def updK {κ : Type} (f : κ → Option Value) (x : κ) (v : Value) : κ → Option Value := fun y => if y = x then some v else f y
theorem updK_same {κ : Type} (f : κ → Option Value) (x : κ) (v : Value) : updK f x v x = some v := by unfold updK; rw [if_pos rfl]
theorem updK_other {κ : Type} (f : κ → Option Value) {x y : κ} (v : Value) (h : y ≠ x) : updK f x v y = f y := by unfold updK; rw [if_neg h]
theorem MapL.put {t e : TypeId} (h : MapL K w b f c) (ht : Tryz.prog.underlying t = some (.map k e)) (hc : c < maxLen) {x : κ} (hx : K.fits x) (v : Value) :
    ∃ w', (Instr.mapUpdate t (.map (some b)) (K.kv x) v).run Tryz.prog w = .ok () w' ∧ MapL K w' b (updK f x v) (c + 1) ∧ w.grownBy w' (some b) := by
  obtain ⟨D, h1, h2⟩ := h
  have hm := h1.isMap
  obtain ⟨w', hrun, ho, hg⟩ := h1.update K.keyed ht hc (d := .held v) (ps := []) (K.of x hx) (val := v) rfl
  refine ⟨w', hrun, ⟨_, ho, fun y hy z => ?_⟩, hg⟩
  by_cases e : y = x
  · subst e
    rw [updK_same, Maps.atKey_put_same hm (K.keyed.key (K.of y hx))]
  · rw [updK_other _ _ e, Maps.atKey_put_other (fun e1 => e (K.inj y x hy hx e1)), h2 y hy]
end
theorem laidOut : laidOutB Tryz.prog = true := by kernel_rfl
theorem wf64 {i : Int} (h : -9223372036854775808 ≤ i ∧ i ≤ 9223372036854775807) : (Lit.int .i64 i).wf = true := by
  unfold Lit.wf
  have h1 : IntKind.i64.min = -9223372036854775808 := by decide
  have h2 : IntKind.i64.max = 9223372036854775807 := by decide
  simp only [h1, h2, Bool.and_eq_true, decide_eq_true_eq]; exact h
theorem strK_of (x : List UInt8) (hx : x.length ≤ maxLen) : keyOf Tryz.prog 9 (.string (ba x)) = some (.string x) := by
  have h2 : (ba x).size ≤ maxLen := by rw [ba_size]; exact hx
  have h3 : keyOf Tryz.prog 9 (.string (ba x)) = mapKey Tryz.prog 9 (.string (ba x)) := by simp [keyOf, Tryz.underlying9]
  rw [h3]
  simp [mapKey, Tryz.underlying9, h2, ba_list]
noncomputable def strK : KeyL 9 (List UInt8) where
  kv := fun x => .string (ba x)
  fits := fun x => x.length ≤ maxLen
  kk := fun x => .string x
  keyed := Maps.string_keyed Tryz.underlying9
  of := strK_of
  inj := fun x y _ _ h => by injection h
theorem rowS : (94 : TypeId) < Tryz.prog.types.size := of_decide_eq_true (by kernel_rfl)
theorem lawS : WideMaps.KeyLaw Tryz.prog 94 := deep_law_laid laidOut (m := 3) (by omega) rowS (by kernel_rfl) (by rw [Tryz.underlying94])
theorem cellsS : Tryz.prog.cellsOf 94 = 3 := by kernel_rfl
theorem cells3 : Tryz.prog.cellsOf 3 = 1 := by kernel_rfl
theorem cells4 : Tryz.prog.cellsOf 4 = 1 := by kernel_rfl
theorem cells9 : Tryz.prog.cellsOf 9 = 1 := by kernel_rfl
theorem ktS : Tryz.prog.keyType 94 = true := by kernel_rfl
theorem types_sizeS : ∃ n, Tryz.prog.types.size + 1 = n + 2 := ⟨Tryz.prog.types.size - 1, by have : (94 : Nat) < Tryz.prog.types.size := rowS; omega⟩
def spotV (p : Spot3) : Value := .agg #[.string (ba p.name), .int .i64 p.section_, .bool p.wide]
def SpotFits (p : Spot3) : Prop := (Lit.int .i64 p.section_).wf = true ∧ p.name.length ≤ maxLen
theorem spot_some {p : Spot3} (h : SpotFits p) : ∃ l, keyOf Tryz.prog 94 (spotV p) = some l := by
  obtain ⟨n, hn⟩ := types_sizeS
  have hf : (spotV p).formed Tryz.prog 94 = true := by simp [spotV, Value.formed, Tryz.underlying94, cellsS]
  have hc : (spotV p).cells.toList = [.string (ba p.name), .int .i64 p.section_, .bool p.wide] := rfl
  have h1 := h.1
  have h2 : (ba p.name).size ≤ maxLen := by rw [ba_size]; exact h.2
  unfold keyOf
  rw [Tryz.underlying94]
  simp only [ktS, hf, hn, hc]
  simp [Program.keyLits, Tryz.underlying94, Tryz.underlying3, Tryz.underlying9, Tryz.underlying4, cellsS, cells3, cells4, cells9, h1, h2]
noncomputable def spotL (p : Spot3) : Lit := (keyOf Tryz.prog 94 (spotV p)).getD (.bool false)
theorem spotL_of (p : Spot3) (h : SpotFits p) : keyOf Tryz.prog 94 (spotV p) = some (spotL p) := by
  obtain ⟨l, hl⟩ := spot_some h
  unfold spotL; rw [hl]; rfl
theorem spotV_inj {p q : Spot3} (h : spotV p = spotV q) : p = q := by
  simp only [spotV, Value.agg.injEq] at h
  have h3 : [Value.string (ba p.name), Value.int .i64 p.section_, Value.bool p.wide] = [Value.string (ba q.name), Value.int .i64 q.section_, Value.bool q.wide] := congrArg Array.toList h
  simp only [List.cons.injEq, Value.int.injEq, Value.string.injEq, Value.bool.injEq, and_true, true_and] at h3
  obtain ⟨a, b, c⟩ := p
  obtain ⟨a', b', c'⟩ := q
  have e1 : a = a' := ba_inj.1 h3.1
  have e2 : b = b' := h3.2.1
  have e3 : c = c' := h3.2.2
  subst e1; subst e2; subst e3
  rfl
noncomputable def spotK : KeyL 94 Spot3 where
  kv := spotV
  fits := SpotFits
  kk := spotL
  keyed := .of_law lawS
  of := spotL_of
  inj := fun x y hx hy h => spotV_inj (lawS.inj (spotL_of x hx) (by rw [h]; exact spotL_of y hy))
end Go.Proofs.YtnpgnohlcphfnaaGreatDoor
end
section
namespace Go.Proofs.YtnpgnohlcphfnaaGreatDoor
open Go.RowKit
set_option linter.unusedVariables false

set_option maxRecDepth 100000 in
set_option maxHeartbeats 4000000 in
theorem chsmall_any (l : List UInt8) (w : World) (hl : l.length ≤ 1000000000) :
    Calls Tryz.prog 178 #[.string (ba l)] w (StrB w (smallP l)) := by
  have hcv := fun (W : World) (S : ByteArray) => run_bytes_of_string (P := Tryz.prog) W 9 59 5 S Tryz.underlying9 Tryz.underlying59 Tryz.underlying5
  have HR0 := Lib.hid (fun (cap m : Nat) (hm : l.length ≤ m) => ByteRow.of_string w l cap 5 m hm)
  obtain ⟨n, hn⟩ : ∃ n, l.length = n := ⟨_, rfl⟩
  have HL := Lib.hid hn
  obtain ⟨s, hs⟩ : ∃ s, ba l = s := ⟨_, rfl⟩
  have HS := Lib.hid hs
  have HZ := Lib.hid (show s.size = n by rw [← hs, ba_size, hn])
  have hsz : (s.size : Int) = n := by rw [HZ.out]
  rw [hs]
  rw [hn] at hl
  clear hs hn
  rw [HS.out] at HR0
  go_enter Tryz.func178, Tryz.ntmps178
  go_wp2
  obtain ⟨C, hC⟩ : ∃ C, grownCap w s.size 0 5 = C := ⟨_, rfl⟩
  have HCN := Lib.hid (show l.length ≤ (bytesRow s C).size by rw [bytesRow_size s C (by rw [← hC]; have := grownCap_ge w s.size 0 5; omega), ← hC, HL.out]; have := grownCap_ge w s.size 0 5; omega)
  rw [hC]
  clear hC hcv
  go_loopw [10] (fun i wr => ∃ k : Nat, k ≤ n ∧ i = .int .i64 (k : Int) ∧ Hid (SmRel w l k wr)) (fun i _ => n - (intOf i).toNat)
  case atStart =>
    refine ⟨0, Nat.zero_le _, rfl, Lib.hid ⟨?_, (Below.refl _ _).drew.alloc (Nat.le_refl _) _⟩⟩
    rw [show smallP (l.take 0) ++ l.drop 0 = l from rfl]
    exact (HR0.out C _ HCN.out).drew
  case round =>
    obtain ⟨k, hk, rfl, HR⟩ := hrel
    have hsz2 := HR.out.bel.size
    by_cases hlt : k < n
    · have hk2 : (k : Int) < (n : Int) := by omega
      have hk3 : (k : Int) < (s.size : Int) := by omega
      have hk0 : (0 : Int) ≤ (k : Int) := by omega
      have hkl : k < l.length := by rw [HL.out]; exact hlt
      have hks : k < (smallP (l.take k) ++ l.drop k).length := by rw [sm_len]; exact hkl
      have hcell := HR.out.row.cell hks
      have hfree := HR.out.row.free hks
      rw [sm_get hkl hks] at hcell
      have HST := Lib.hid (sm_step hkl)
      have HSA := Lib.hid (sm_same hkl)
      have HSET := Lib.hid (HR.out.row.set hks (smallB l[k]))
      obtain ⟨c, hc⟩ : ∃ c, l[k] = c := ⟨_, rfl⟩
      rw [hc] at hcell HST HSA HSET
      have HY := Lib.hid (smallB_yes (c := c))
      have HNO := Lib.hid (smallB_no (c := c))
      obtain ⟨x, hx⟩ : ∃ x : Int, (c.toNat : Int) = x := ⟨_, rfl⟩
      rw [hx] at hcell HY HNO
      have hx0 : 0 ≤ x := by omega
      have hx1 : x ≤ 255 := by have := c.toNat_lt; omega
      have HX := Lib.hid hx
      clear hc hkl hks hx
      by_cases e1 : 65 ≤ x
      · by_cases e2 : x ≤ 90
        · have g1 : decide (65 ≤ x) = true := decide_eq_true e1
          have g2 : decide (x ≤ 90) = true := decide_eq_true e2
          have HV := Lib.hid (show (smallB c).toNat = x + 32 by rw [HY.out ⟨e1, e2⟩]; have := HX.out; have := c.toNat_lt; simp; omega)
          go_wp2
          go_roundw
          case rel =>
            refine ⟨k + 1, by omega, by go_num, Lib.hid ⟨?_, HR.out.bel.setCell (Nat.le_refl _) _⟩⟩
            rw [HST.out]
            have := HSET.out
            rw [HV.out, show x + 32 = x + 97 - 65 by omega] at this
            exact this
          case measure => simp [intOf] <;> omega
        · have g1 : decide (65 ≤ x) = true := decide_eq_true e1
          have g2 : decide (x ≤ 90) = false := decide_eq_false e2
          have HV := Lib.hid (HSA.out (HNO.out fun h => e2 h.2))
          clear hfree
          go_wp2
          go_roundw
          case rel =>
            refine ⟨k + 1, by omega, by go_num, Lib.hid ⟨?_, HR.out.bel⟩⟩
            rw [HV.out]
            exact HR.out.row
          case measure => simp [intOf] <;> omega
      · have g1 : decide (65 ≤ x) = false := decide_eq_false e1
        have HV := Lib.hid (HSA.out (HNO.out fun h => e1 h.1))
        clear hfree
        go_wp2
        go_roundw
        case rel =>
          refine ⟨k + 1, by omega, by go_num, Lib.hid ⟨?_, HR.out.bel⟩⟩
          rw [HV.out]
          exact HR.out.row
        case measure => simp [intOf] <;> omega
    · obtain rfl : k = n := by omega
      have hrow : ByteRow wr w.heap.size (smallP l) := by
        have := HR.out.row
        rw [List.take_of_length_le (by rw [HL.out]; exact Nat.le_refl _), List.drop_of_length_le (by rw [HL.out]; exact Nat.le_refl _), List.append_nil] at this
        exact this
      have hback := run_convert_bytes_back (P := Tryz.prog) wr 59 9 5 ⟨w.heap.size, 0, none⟩ C (smallP l) Tryz.underlying59 Tryz.underlying5 Tryz.underlying9 hrow.cells
      rw [smallP_len, HL.out, ← HZ.out] at hback
      clear hrow hsz
      go_wp2
      go_ret
      exact ⟨rfl, HR.out.bel⟩
end Go.Proofs.YtnpgnohlcphfnaaGreatDoor
end
section
namespace Go.Proofs.YtnpgnohlcphfnaaGreatDoor
open Go.RowKit
set_option linter.unusedVariables false

def fnBy (b : Nat) : Value := .func (.func 212) #[] #[.pointer (some ⟨b, 0, none⟩)]
def fnRep : Value := .func (.func 24) #[] #[]
def readF (b1 b2 b3 : Nat) (name : List UInt8) : Option Value := match setOf name with
  | 1 => some (fnBy b1)
  | 2 => some fnRep
  | 3 => some (fnBy b2)
  | 4 => some (fnBy b3)
  | _ => none
/-- The map of the readers, at block m. -/
structure Readers (w : World) (m : Nat) : Prop where
  ex : ∃ b1 b2 b3, MapL strK w m (readF b1 b2 b3) 8 ∧
    (w.cell? ⟨b1, 0, none⟩ = some (.func (.func 210) #[] #[]) ∧ b1 < w.heap.size) ∧
    (w.cell? ⟨b2, 0, none⟩ = some (.func (.func 211) #[] #[]) ∧ b2 < w.heap.size) ∧
    (w.cell? ⟨b3, 0, none⟩ = some (.func (.func 180) #[] #[]) ∧ b3 < w.heap.size)
def ReadPost (w : World) (e : Ending) (w' : World) : Prop := ∃ m, e = .returned (.map (some m)) ∧ Readers w' m ∧ Below w.heap.size w w'
def n1 : List UInt8 := [117, 115, 45, 97, 115, 99, 105, 105]
def n2 : List UInt8 := [97, 115, 99, 105, 105]
def n3 : List UInt8 := [117, 116, 102, 45, 56]
def n4 : List UInt8 := [117, 116, 102, 56]
def n5 : List UInt8 := [105, 115, 111, 45, 56, 56, 53, 57, 45, 49]
def n6 : List UInt8 := [108, 97, 116, 105, 110, 49]
def n7 : List UInt8 := [119, 105, 110, 100, 111, 119, 115, 45, 49, 50, 53, 50]
def n8 : List UInt8 := [99, 112, 49, 50, 53, 50]
theorem readF_upd (b1 b2 b3 : Nat) (x : List UInt8) :
    readF b1 b2 b3 x = updK (updK (updK (updK (updK (updK (updK (updK (fun _ => none) n1 (fnBy b1)) n2 (fnBy b1)) n3 fnRep) n4 fnRep) n5 (fnBy b2)) n6 (fnBy b2)) n7 (fnBy b3)) n8 (fnBy b3) x := by
  unfold readF setOf updK
  by_cases h8 : x = n8
  · subst h8; unfold n1 n2 n3 n4 n5 n6 n7 n8; simp
  by_cases h7 : x = n7
  · subst h7; unfold n1 n2 n3 n4 n5 n6 n7 n8; simp
  by_cases h6 : x = n6
  · subst h6; unfold n1 n2 n3 n4 n5 n6 n7 n8; simp
  by_cases h5 : x = n5
  · subst h5; unfold n1 n2 n3 n4 n5 n6 n7 n8; simp
  by_cases h4 : x = n4
  · subst h4; unfold n1 n2 n3 n4 n5 n6 n7 n8; simp
  by_cases h3 : x = n3
  · subst h3; unfold n1 n2 n3 n4 n5 n6 n7 n8; simp
  by_cases h2 : x = n2
  · subst h2; unfold n1 n2 n3 n4 n5 n6 n7 n8; simp
  by_cases h1 : x = n1
  · subst h1; unfold n1 n2 n3 n4 n5 n6 n7 n8; simp
  rw [if_neg h8, if_neg h7, if_neg h6, if_neg h5, if_neg h4, if_neg h3, if_neg h2, if_neg h1]
  rw [if_neg (fun h => h.elim h1 h2), if_neg (fun h => h.elim h3 h4), if_neg (fun h => h.elim h5 h6), if_neg (fun h => h.elim h7 h8)]
  rfl
theorem bytewise_any (F : FuncId) (w : World) : Calls Tryz.prog 179 #[.func (.func F) #[] #[]] w fun e w' => e = .returned (fnBy w.heap.size) ∧ w' = w.alloc (.cells #[.func (.func F) #[] #[]] 199) := by
  go_enter Tryz.func179, Tryz.ntmps179
  go_wp2
  go_ret
  exact ⟨rfl, rfl⟩
set_option maxRecDepth 100000 in
set_option maxHeartbeats 4000000 in
theorem readers_any (w : World) : Calls Tryz.prog 177 #[] w (ReadPost w) := by
  have hm0 := MapL.made strK (((w.alloc (.cells #[.func (.func 210) #[] #[]] 199)).alloc (.cells #[.func (.func 211) #[] #[]] 199)).alloc (.cells #[.func (.func 180) #[] #[]] 199))
  simp only [World.size_alloc] at hm0
  obtain ⟨W1, hrun1, hm1, hg1⟩ := hm0.put Tryz.underlying196 (by decide) (x := n1) (show n1.length ≤ maxLen by decide) (fnBy w.heap.size)
  obtain ⟨W2, hrun2, hm2, hg2⟩ := hm1.put Tryz.underlying196 (by decide) (x := n2) (show n2.length ≤ maxLen by decide) (fnBy w.heap.size)
  obtain ⟨W3, hrun3, hm3, hg3⟩ := hm2.put Tryz.underlying196 (by decide) (x := n3) (show n3.length ≤ maxLen by decide) fnRep
  obtain ⟨W4, hrun4, hm4, hg4⟩ := hm3.put Tryz.underlying196 (by decide) (x := n4) (show n4.length ≤ maxLen by decide) fnRep
  obtain ⟨W5, hrun5, hm5, hg5⟩ := hm4.put Tryz.underlying196 (by decide) (x := n5) (show n5.length ≤ maxLen by decide) (fnBy (w.heap.size + 1))
  obtain ⟨W6, hrun6, hm6, hg6⟩ := hm5.put Tryz.underlying196 (by decide) (x := n6) (show n6.length ≤ maxLen by decide) (fnBy (w.heap.size + 1))
  obtain ⟨W7, hrun7, hm7, hg7⟩ := hm6.put Tryz.underlying196 (by decide) (x := n7) (show n7.length ≤ maxLen by decide) (fnBy (w.heap.size + 1 + 1))
  obtain ⟨W8, hrun8, hm8, hg8⟩ := hm7.put Tryz.underlying196 (by decide) (x := n8) (show n8.length ≤ maxLen by decide) (fnBy (w.heap.size + 1 + 1))
  have HM := Lib.hid hm8
  have HG := Lib.hid (show Below (w.heap.size + 1 + 1 + 1) (((w.alloc (.cells #[.func (.func 210) #[] #[]] 199)).alloc (.cells #[.func (.func 211) #[] #[]] 199)).alloc (.cells #[.func (.func 180) #[] #[]] 199)) W8 from by
    have hb0 : Below (w.heap.size + 1 + 1 + 1) (((w.alloc (.cells #[.func (.func 210) #[] #[]] 199)).alloc (.cells #[.func (.func 211) #[] #[]] 199)).alloc (.cells #[.func (.func 180) #[] #[]] 199)) ((((w.alloc (.cells #[.func (.func 210) #[] #[]] 199)).alloc (.cells #[.func (.func 211) #[] #[]] 199)).alloc (.cells #[.func (.func 180) #[] #[]] 199)).alloc (.map #[] 0)) := (Below.refl _ _).alloc (by simp) _
    have hr : ∀ k : Nat, some (w.heap.size + 1 + 1 + 1) = some k → w.heap.size + 1 + 1 + 1 ≤ k := fun k e => by injection e with e; omega
    have hs0 : w.heap.size + 1 + 1 + 1 ≤ ((((w.alloc (.cells #[.func (.func 210) #[] #[]] 199)).alloc (.cells #[.func (.func 211) #[] #[]] 199)).alloc (.cells #[.func (.func 180) #[] #[]] 199)).alloc (.map #[] 0)).heap.size := by simp
    have hb1 := hb0.grown hg1 hs0 hr
    have hb2 := hb1.grown hg2 (by have := hg1.size; omega) hr
    have hb3 := hb2.grown hg3 (by have := hg1.size; have := hg2.size; omega) hr
    have hb4 := hb3.grown hg4 (by have := hg1.size; have := hg2.size; have := hg3.size; omega) hr
    have hb5 := hb4.grown hg5 (by have := hg1.size; have := hg2.size; have := hg3.size; have := hg4.size; omega) hr
    have hb6 := hb5.grown hg6 (by have := hg1.size; have := hg2.size; have := hg3.size; have := hg4.size; have := hg5.size; omega) hr
    have hb7 := hb6.grown hg7 (by have := hg1.size; have := hg2.size; have := hg3.size; have := hg4.size; have := hg5.size; have := hg6.size; omega) hr
    exact hb7.grown hg8 (by have := hg1.size; have := hg2.size; have := hg3.size; have := hg4.size; have := hg5.size; have := hg6.size; have := hg7.size; omega) hr)
  clear hm0 hm1 hm2 hm3 hm4 hm5 hm6 hm7 hm8 hg1 hg2 hg3 hg4 hg5 hg6 hg7 hg8
  unfold strK at hrun1 hrun2 hrun3 hrun4 hrun5 hrun6 hrun7 hrun8
  simp only [n1, n2, n3, n4, n5, n6, n7, n8, fnBy, fnRep, ba] at hrun1 hrun2 hrun3 hrun4 hrun5 hrun6 hrun7 hrun8
  have hmm := @run_makeMap Tryz.prog
  go_enter Tryz.func177, Tryz.ntmps177
  go_wp2_with fail
  refine (bytewise_any _ _).mono ?_
  rintro e w1 ⟨rfl, rfl⟩
  go_wp2_with fail
  refine (bytewise_any _ _).mono ?_
  rintro e w1 ⟨rfl, rfl⟩
  go_wp2_with fail
  refine (bytewise_any _ _).mono ?_
  rintro e w1 ⟨rfl, rfl⟩
  unfold fnBy
  go_wp2_with fail
  go_ret
  refine ⟨_, rfl, ⟨w.heap.size, w.heap.size + 1, w.heap.size + 1 + 1, HM.out.congr fun x _ => readF_upd _ _ _ x, ⟨?_, ?_⟩, ⟨?_, ?_⟩, ?_, ?_⟩, ?_⟩
  · rw [HG.out.cell (p := ⟨w.heap.size, 0, none⟩) (by show w.heap.size < _; omega)]
    go_simp
  · have := HG.out.size; simp at this; omega
  · rw [HG.out.cell (p := ⟨w.heap.size + 1, 0, none⟩) (by show w.heap.size + 1 < _; omega)]
    go_simp
  · have := HG.out.size; simp at this; omega
  · rw [HG.out.cell (p := ⟨w.heap.size + 1 + 1, 0, none⟩) (by show w.heap.size + 1 + 1 < _; omega)]
    go_simp
  · have := HG.out.size; simp at this; omega
  · exact ((((Below.refl _ _).alloc (Nat.le_refl _) _).alloc (by simp) _).alloc (by simp; omega) _).trans (HG.out.mono (by omega))
theorem zero_fn (w : World) : (zeroValue 43).run Tryz.prog w = .ok .nilFunc w := by kernel_rfl
def decK (k : Nat) (l : List UInt8) : List UInt8 := match k with
  | 1 => bytesBy signA l
  | 2 => repairP l
  | 3 => bytesBy signL l
  | _ => bytesBy signW l
theorem decodeSet_k (name l : List UInt8) : decodeSet name l = decK (setOf (smallP name)) l := rfl
theorem fn_nil (W : World) : (binOp .eql 43 .nilFunc .nilFunc).run Tryz.prog W = .ok (.bool true) W := by kernel_rfl
theorem fn_some (F : Fn) (a c : Array Value) (W : World) : (binOp .eql 43 (.func F a c) .nilFunc).run Tryz.prog W = .ok (.bool false) W := by kernel_rfl
def DecPost (w : World) (name l : List UInt8) (e : Ending) (w' : World) : Prop := e = .returned (.tuple #[.string (ba (decodeSet name l)), .bool (decide (setOf (smallP name) ≠ 0))]) ∧ Below w.heap.size w w'
set_option maxRecDepth 100000 in
set_option maxHeartbeats 4000000 in
theorem decode_any (name l : List UInt8) (w : World) (hn : name.length ≤ 1000000000) (hl : l.length ≤ 1000000000) (hT : Tabs w) :
    Calls Tryz.prog 144 #[.string (ba name), .string (ba l)] w (DecPost w name l) := by
  have hfn := fn_nil
  have hfs := fn_some
  go_enter Tryz.func144, Tryz.ntmps144
  have HT := Lib.hid hT
  clear hT
  go_wp2_with fail
  refine (readers_any w).mono ?_
  rintro e w1 ⟨m, rfl, hR, hb1⟩
  obtain ⟨b1, b2, b3, hm, ⟨hc1, hl1⟩, ⟨hc2, hl2⟩, ⟨hc3, hl3⟩⟩ := hR.ex
  have HM := Lib.hid hm
  have HB1 := Lib.hid hb1
  have HC1 := Lib.hid hc1
  have HC2 := Lib.hid hc2
  have HC3 := Lib.hid hc3
  have HL1 := Lib.hid (And.intro hl1 (And.intro hl2 hl3))
  clear hm hb1 hR hc1 hc2 hc3 hl1 hl2 hl3
  go_wp2_with fail
  refine (chsmall_any name w1 hn).mono ?_
  rintro e w2 ⟨rfl, hb2⟩
  have HB2 := Lib.hid hb2
  clear hb2
  have hlk := (HM.out.below HB2.out).look Tryz.underlying196 (zero_fn w2) (x := smallP name) (show (smallP name).length ≤ maxLen by rw [smallP_len]; unfold maxLen; omega)
  unfold strK at hlk
  dsimp only at hlk
  have hs0 : setOf (smallP name) = 0 ∨ setOf (smallP name) = 1 ∨ setOf (smallP name) = 2 ∨ setOf (smallP name) = 3 ∨ setOf (smallP name) = 4 := by
    unfold setOf
    repeat' split
    all_goals simp
  have HFIN := Lib.hid (show ∀ k v w', setOf (smallP name) = k → decK k l = v → Below w.heap.size w w' → DecPost w name l (.returned (.tuple #[.string (ba v), .bool (decide (k ≠ 0))])) w' from fun k v w' h1 h2 h3 => by
    unfold DecPost
    rw [decodeSet_k, h1, h2]
    exact ⟨rfl, h3⟩)
  have HT2 := Lib.hid ((HT.out.below HB1.out).below (HB2.out))
  have HBB := Lib.hid (HB1.out.trans (HB2.out.mono HB1.out.size))
  unfold readF at hlk
  obtain ⟨k, hk⟩ : ∃ k, setOf (smallP name) = k := ⟨_, rfl⟩
  rw [hk] at hlk hs0
  have HK := Lib.hid hk
  clear hk
  rcases hs0 with rfl | rfl | rfl | rfl | rfl
  · have BOX := Lib.hid (show Below w.heap.size w2 (w2.alloc (.cells #[.func (.func 180) #[] #[]] 199)) from (Below.refl _ _).alloc HBB.out.size _)
    have hcx : (w2.alloc (.cells #[.func (.func 180) #[] #[]] 199)).cell? ⟨w2.heap.size, 0, none⟩ = some (.func (.func 180) #[] #[]) := by simp
    have HCX := Lib.hid hcx
    clear hcx
    go_wp2_with fail
    refine (bytewise_any _ _).mono ?_
    rintro e w3 ⟨rfl, rfl⟩
    unfold fnBy
    go_wp2_with fail
    refine (by_windows l w2.heap.size (w2.alloc (.cells #[.func (.func 180) #[] #[]] 199)) hl HCX.out (by simp)).mono ?_
    rintro e w4 ⟨rfl, hb4⟩
    have HB4 := Lib.hid hb4
    clear hb4
    go_wp2
    go_ret2
    exact HFIN.out 0 _ _ HK.out rfl (HBB.out.trans ((BOX.out).trans (HB4.out.mono (by have := HBB.out.size; simp; omega))))
  · unfold fnBy at hlk
    go_wp2_with fail
    refine (by_ascii l b1 w2 hl ((HB2.out.cell (p := ⟨b1, 0, none⟩) HL1.out.1).trans HC1.out) (Nat.lt_of_lt_of_le HL1.out.1 HB2.out.size)).mono ?_
    rintro e w4 ⟨rfl, hb4⟩
    have HB4 := Lib.hid hb4
    clear hb4
    go_wp2
    go_ret2
    exact HFIN.out 1 _ _ HK.out rfl (HBB.out.trans (HB4.out.mono HBB.out.size))
  · unfold fnRep at hlk
    go_wp2_with fail
    refine (repair_any l w2 hl HT2.out).mono ?_
    rintro e w4 ⟨rfl, hb4⟩
    have HB4 := Lib.hid hb4
    clear hb4
    go_wp2
    go_ret2
    exact HFIN.out 2 _ _ HK.out rfl (HBB.out.trans (HB4.out.mono HBB.out.size))
  · unfold fnBy at hlk
    go_wp2_with fail
    refine (by_latin l b2 w2 hl ((HB2.out.cell (p := ⟨b2, 0, none⟩) HL1.out.2.1).trans HC2.out) (Nat.lt_of_lt_of_le HL1.out.2.1 HB2.out.size)).mono ?_
    rintro e w4 ⟨rfl, hb4⟩
    have HB4 := Lib.hid hb4
    clear hb4
    go_wp2
    go_ret2
    exact HFIN.out 3 _ _ HK.out rfl (HBB.out.trans (HB4.out.mono HBB.out.size))
  · unfold fnBy at hlk
    go_wp2_with fail
    refine (by_windows l b3 w2 hl ((HB2.out.cell (p := ⟨b3, 0, none⟩) HL1.out.2.2).trans HC3.out) (Nat.lt_of_lt_of_le HL1.out.2.2 HB2.out.size)).mono ?_
    rintro e w4 ⟨rfl, hb4⟩
    have HB4 := Lib.hid hb4
    clear hb4
    go_wp2
    go_ret2
    exact HFIN.out 4 _ _ HK.out rfl (HBB.out.trans (HB4.out.mono HBB.out.size))
end Go.Proofs.YtnpgnohlcphfnaaGreatDoor
end
section
namespace Go.Proofs.YtnpgnohlcphfnaaGreatDoor
open Go.RowKit
set_option linter.unusedVariables false

theorem letter_any (c : UInt8) (w : World) : Calls Tryz.prog 66 #[.int .u8 (c.toNat : Int)] w fun e w' => e = .returned (.bool (letterB c)) ∧ w' = w := by
  obtain ⟨x, hx⟩ : ∃ x : Int, (c.toNat : Int) = x := ⟨_, rfl⟩
  have HF := Lib.hid (fun b => letterV hx (b := b))
  rw [hx]
  clear hx
  go_enter Tryz.func66, Tryz.ntmps66
  go_wp2
  all_goals
    go_ret
    refine ⟨?_, rfl⟩
    rw [HF.out _ rfl]
    show Ending.returned (Value.bool _) = Ending.returned (Value.bool _)
    congr 2
    rw [Bool.eq_iff_iff]
    simp only [Bool.or_eq_true, Bool.and_eq_true, decide_eq_true_iff]
    first | omega | (simp; omega)
theorem wordBytes_index (c : UInt8) : decide (Lib.indexByte wordBytes c < 0) = !wordBytes.contains c := u8_all (fun c => decide (Lib.indexByte wordBytes c < 0) = !wordBytes.contains c) (by decide +kernel) c
theorem windex_any (c : UInt8) (w : World) : Calls Tryz.prog 67 #[.string ⟨#[33, 35, 36, 38, 94, 95, 46, 43, 45]⟩, .int .u8 (c.toNat : Int)] w fun e w' => e = .returned (.int .i64 (Lib.indexByte wordBytes c)) ∧ w' = w := by
  refine (Tryz.strings_IndexByte _ (c.toNat : Int) w).mono ?_
  rintro e w' ⟨rfl, rfl⟩
  rw [u8_back]
  exact ⟨rfl, rfl⟩
set_option maxRecDepth 100000 in
set_option maxHeartbeats 4000000 in
theorem word_any (l : List UInt8) (w : World) (hl : l.length ≤ 1000000000) :
    Calls Tryz.prog 32 #[.string (ba l)] w fun e w' => e = .returned (.bool (isWord l)) ∧ w' = w := by
  have HEM := Lib.hid (show isWord l = (l.all wordB && !l.isEmpty) from rfl)
  have hem : (ba l).toList.isEmpty = l.isEmpty := by rw [ba_toList]
  obtain ⟨n, hn⟩ : ∃ n, l.length = n := ⟨_, rfl⟩
  have HL := Lib.hid hn
  obtain ⟨s, hs⟩ : ∃ s, ba l = s := ⟨_, rfl⟩
  have HS := Lib.hid hs
  have HZ := Lib.hid (show s.size = n by rw [← hs, ba_size, hn])
  have hsz : (s.size : Int) = n := by rw [HZ.out]
  rw [hs]
  rw [hn] at hl
  clear hs hn
  rw [HS.out] at hem
  obtain ⟨em, hem2⟩ : ∃ b, l.isEmpty = b := ⟨_, rfl⟩
  rw [hem2] at hem HEM
  have HES := Lib.hid hem
  clear hem hem2
  go_enter Tryz.func32, Tryz.ntmps32
  go_wp2
  go_loop [6] (fun i => ∃ k : Nat, k ≤ n ∧ i = .int .i64 (k : Int) ∧ Hid ((l.take k).all wordB = true)) (fun i => n - (intOf i).toNat)
  case atStart => exact ⟨0, Nat.zero_le _, rfl, Lib.hid rfl⟩
  case round =>
    obtain ⟨k, hk, rfl, HR⟩ := hrel
    by_cases hlt : k < n
    · have hk2 : (k : Int) < (n : Int) := by omega
      have hk0 : (0 : Int) ≤ (k : Int) := by omega
      have hks : k < s.size := by rw [HZ.out]; omega
      have hkl : k < l.length := by rw [HL.out]; omega
      have hget : s[k] = l[k] := by
        have h := HS.out
        subst h
        rfl
      have HST := Lib.hid (wb_snoc hkl)
      have HIT := Lib.hid (isWord_stop hkl)
      obtain ⟨c, hc⟩ : ∃ c, l[k] = c := ⟨_, rfl⟩
      rw [hc] at hget HST HIT
      obtain ⟨x, hx⟩ : ∃ x : Int, (c.toNat : Int) = x := ⟨_, rfl⟩
      have hgi : ((s[k]).toNat : Int) = x := by rw [hget]; exact hx
      have HX := Lib.hid hx
      have hx0 : 0 ≤ x := by omega
      have hx1 : x ≤ 255 := by have := c.toNat_lt; omega
      clear hc hkl hget hx
      have HHAS := windex_any c
      have HLET := letter_any c
      have HWI := wordBytes_index c
      rw [HX.out] at HHAS HLET
      have HW := Lib.hid (show wordB c = (letterB c || wordBytes.contains c) from rfl)
      obtain ⟨b1, hb1⟩ : ∃ b, letterB c = b := ⟨_, rfl⟩
      obtain ⟨b2, hb2⟩ : ∃ b, wordBytes.contains c = b := ⟨_, rfl⟩
      obtain ⟨v, hv⟩ : ∃ v, Lib.indexByte wordBytes c = v := ⟨_, rfl⟩
      rw [hb1] at HLET HW
      rw [hb2] at HWI HW
      simp only [hv] at HHAS HWI
      have HA := Lib.hid HHAS
      have HE := Lib.hid HLET
      clear hb1 hb2 hv HHAS HLET
      cases b1
      · cases b2
        · have hvn : decide (v < 0) = true := HWI
          have HV := Lib.hid (HIT.out HW.out)
          clear HWI
          go_wp2_with fail
          refine (HE.out _).mono ?_
          rintro e w' ⟨rfl, rfl⟩
          go_wp2_with fail
          refine (HA.out _).mono ?_
          rintro e w' ⟨rfl, rfl⟩
          go_wp2
          go_ret
          exact ⟨by rw [HV.out]; rfl, rfl⟩
        · have hvn : decide (v < 0) = false := HWI
          have HV := Lib.hid (show (l.take (k + 1)).all wordB = true by rw [HST.out, HR.out, HW.out]; rfl)
          clear HWI
          go_wp2_with fail
          refine (HE.out _).mono ?_
          rintro e w' ⟨rfl, rfl⟩
          go_wp2_with fail
          refine (HA.out _).mono ?_
          rintro e w' ⟨rfl, rfl⟩
          go_wp2
          go_round
          case rel => exact ⟨k + 1, by omega, by go_num, HV⟩
          case measure => simp [intOf] <;> omega
      · have HV := Lib.hid (show (l.take (k + 1)).all wordB = true by rw [HST.out, HR.out, HW.out]; rfl)
        clear HWI
        go_wp2_with fail
        refine (HE.out _).mono ?_
        rintro e w' ⟨rfl, rfl⟩
        go_wp2
        go_round
        case rel => exact ⟨k + 1, by omega, by go_num, HV⟩
        case measure => simp [intOf] <;> omega
    · obtain rfl : k = n := by omega
      have HV := Lib.hid (show isWord l = !em by
        rw [HEM.out]
        have := HR.out
        rw [List.take_of_length_le (by rw [HL.out]; exact Nat.le_refl _)] at this
        rw [this]
        rfl)
      have hes := HES.out
      go_wp2
      go_ret
      exact ⟨by rw [HV.out]; rfl, rfl⟩
end Go.Proofs.YtnpgnohlcphfnaaGreatDoor
end
section
namespace Go.Proofs.YtnpgnohlcphfnaaGreatDoor
open Go.RowKit
set_option linter.unusedVariables false

theorem index_find (c : UInt8) : ∀ l : List UInt8, Lib.index l [c] = findV c l
  | [] => rfl
  | x :: r => by
    have ih := index_find c r
    unfold Lib.index findV cutP
    by_cases h : x = c
    · subst h
      simp [List.isPrefixOf]
    · have h2 : List.isPrefixOf [c] (x :: r) = false := by
        simp [List.isPrefixOf]
        exact fun e => h e.symm
      rw [h2, if_neg h, ih]
      unfold findV
      cases hc : cutP c r with
      | none => rfl
      | some q =>
        show (if (false = true) then (0 : Int) else if ((q.1.length : Int) == -1) = true then -1 else (q.1.length : Int) + 1) = ((x :: q.1).length : Int)
        have : ((q.1.length : Int) == -1) = false := by simp
        rw [this]
        simp
def cutV (c : UInt8) (l : List UInt8) : List UInt8 × List UInt8 × Bool := match cutP c l with
  | some q => (q.1, q.2, true)
  | none => (l, [], false)
theorem cut_eq (c : UInt8) (l : List UInt8) : Lib.cut l [c] = cutV c l := by
  unfold Lib.cut cutV
  rw [index_find]
  unfold findV
  cases h : cutP c l with
  | none => rfl
  | some q =>
    obtain ⟨a, b⟩ := q
    have h1 := (cutP_some h).1
    show (if 0 ≤ (a.length : Int) then (l.take (a.length : Int).toNat, l.drop ((a.length : Int).toNat + 1), true) else (l, [], false)) = (a, b, true)
    rw [if_pos (by omega), h1]
    simp
def CutPost (w : World) (c : UInt8) (l : List UInt8) (e : Ending) (w' : World) : Prop := e = .returned (.tuple #[.string (ba (cutV c l).1), .string (ba (cutV c l).2.1), .bool (cutV c l).2.2]) ∧ ∃ n, w' = w.drewN n
theorem cut_any (c : UInt8) (l : List UInt8) (w : World) (hl : l.length ≤ 1000000000) (hT : Tabs w) :
    Calls Tryz.prog 30 #[.string (ba l), .string ⟨#[c]⟩] w (CutPost w c l) := by
  obtain ⟨m, hm⟩ := hT.max
  refine (Tryz.strings_Cut (ba l) ⟨#[c]⟩ m w (by rw [ba_size]; omega) hm).mono ?_
  rintro e w' ⟨rfl, hw⟩
  refine ⟨?_, hw⟩
  have e1 : Lib.cut (ba l).data.toList (⟨#[c]⟩ : ByteArray).data.toList = cutV c l := by rw [ba_list]; exact cut_eq c l
  rw [e1]
  rfl
theorem cutV_len (c : UInt8) (l : List UInt8) : (cutV c l).1.length ≤ l.length ∧ (cutV c l).2.1.length ≤ l.length := by
  unfold cutV
  cases h : cutP c l with
  | none => exact ⟨Nat.le_refl _, Nat.zero_le _⟩
  | some q =>
    obtain ⟨a, b⟩ := q
    have h1 := (cutP_some h).1
    show a.length ≤ l.length ∧ b.length ≤ l.length
    rw [h1]
    simp
    omega
theorem splitP_cut (l : List UInt8) : splitP l = if (cutV 39 l).2.2 = true ∧ (cutV 39 (cutV 39 l).2.1).2.2 = true then ((cutV 39 l).1, (cutV 39 (cutV 39 l).2.1).2.1) else ([], l) := by
  unfold splitP cutV
  cases h : cutP 39 l with
  | none => rfl
  | some q =>
    show (match cutP 39 q.2 with | none => ([], l) | some p => (q.1, p.2)) = _
    cases h2 : cutP 39 q.2 with
    | none => simp
    | some p => simp
def SplitPost (w : World) (l : List UInt8) (e : Ending) (w' : World) : Prop := e = .returned (.tuple #[.string (ba (splitP l).1), .string (ba (splitP l).2)]) ∧ Below w.heap.size w w'
theorem split_fin {w w' : World} {l a b : List UInt8} (h : splitP l = (a, b)) (hb : Below w.heap.size w w') : SplitPost w l (.returned (.tuple #[.string (ba a), .string (ba b)])) w' := by
  unfold SplitPost
  rw [h]
  exact ⟨rfl, hb⟩
set_option maxRecDepth 100000 in
set_option maxHeartbeats 4000000 in
theorem split_any (l : List UInt8) (w : World) (hl : l.length ≤ 1000000000) (hT : Tabs w) :
    Calls Tryz.prog 106 #[.string (ba l)] w (SplitPost w l) := by
  have HC1 := Lib.hid (cut_any 39 l w hl hT)
  have hl2 := cutV_len 39 l
  have HC2 := Lib.hid (fun n => cut_any 39 (cutV 39 l).2.1 (w.drewN n) (by omega) (hT.drewN n))
  have HS := Lib.hid (splitP_cut l)
  unfold CutPost at HC1 HC2
  clear hT hl2
  obtain ⟨⟨a, b, f⟩, hv⟩ : ∃ v, cutV 39 l = v := ⟨_, rfl⟩
  rw [hv] at HC1 HC2 HS
  obtain ⟨⟨c, d, g⟩, hv2⟩ : ∃ v, cutV 39 b = v := ⟨_, rfl⟩
  simp only [hv2] at HC2 HS
  clear hv hv2
  go_enter Tryz.func106, Tryz.ntmps106
  go_wp2_with fail
  refine HC1.out.mono ?_
  rintro e w1 ⟨rfl, n1, rfl⟩
  go_wp2_with fail
  refine (HC2.out n1).mono ?_
  rintro e w1 ⟨rfl, n2, rfl⟩
  have HB := Lib.hid (below_drewN (Below.refl w.heap.size w) (n1 + n2))
  cases f
  · have HF := Lib.hid (show splitP l = ([], l) by rw [HS.out]; rfl)
    go_wp2
    go_ret2
    exact split_fin HF.out HB.out
  · cases g
    · have HF := Lib.hid (show splitP l = ([], l) by rw [HS.out]; rfl)
      go_wp2
      go_ret2
      exact split_fin HF.out HB.out
    · have HF := Lib.hid (show splitP l = (a, d) by rw [HS.out]; rfl)
      go_wp2
      go_ret2
      exact split_fin HF.out HB.out
set_option maxRecDepth 100000 in
set_option maxHeartbeats 4000000 in
theorem meant_any (name l : List UInt8) (w : World) (hn : name.length ≤ 1000000000) (hl : l.length ≤ 1000000000) (hT : Tabs w) :
    Calls Tryz.prog 107 #[.string (ba name), .string (ba l)] w (StrB w (meantP name l)) := by
  have HR := Lib.hid (repair_any l w hl hT)
  have HD := Lib.hid (decode_any name l w hn hl hT)
  unfold DecPost at HD
  obtain ⟨bb, hbb⟩ : ∃ b, decide (setOf (smallP name) ≠ 0) = b := ⟨_, rfl⟩
  rw [hbb] at HD
  clear hbb hT
  cases name with
  | nil =>
    have g1 : (ba ([] : List UInt8)).toList.isEmpty = true := by rw [ba_toList]; rfl
    have HM := Lib.hid (show meantP [] l = repairP l from rfl)
    go_enter Tryz.func107, Tryz.ntmps107
    go_wp2_with fail
    refine HR.out.mono ?_
    rintro e w1 ⟨rfl, hb⟩
    have HB := Lib.hid hb
    clear hb
    go_wp2
    go_ret
    exact str_fin (by rw [HM.out]) HB.out
  | cons c r =>
    have g1 : (ba (c :: r)).toList.isEmpty = false := by rw [ba_toList]; rfl
    have HM := Lib.hid (show meantP (c :: r) l = decodeSet (c :: r) l by unfold meantP; rw [if_neg (by simp)])
    go_enter Tryz.func107, Tryz.ntmps107
    go_wp2_with fail
    refine HD.out.mono ?_
    rintro e w1 ⟨rfl, hb⟩
    have HB := Lib.hid hb
    clear hb
    go_wp2
    go_ret
    exact str_fin (by rw [HM.out]) HB.out
end Go.Proofs.YtnpgnohlcphfnaaGreatDoor
end
