/- Layer 9: a Replacer of bytes asked (printed by gen_hdr.py). -/
import Derived.Test.YtnpgnohlcphfnaaGreatDoorHdR2
import Derived.Test.YtnpgnohlcphfnaaGreatDoorM03
import Derived.Test.YtnpgnohlcphfnaaGreatDoorM10
namespace Go.Proofs.YtnpgnohlcphfnaaGreatDoor
open Go.RowKit
set_option linter.unusedVariables false

def airB1 (c : UInt8) : UInt8 := if c = 13 ∨ c = 10 then 32 else c
theorem airP_map (l : List UInt8) : airP l = l.map airB1 := rfl
theorem airP_len (l : List UInt8) : (airP l).length = l.length := List.length_map _
theorem air_len (l : List UInt8) (k : Nat) : (airP (l.take k) ++ l.drop k).length = l.length := by
  rw [List.length_append, airP_len, List.length_take, List.length_drop]
  omega
theorem air_get {l : List UInt8} {k : Nat} (hk : k < l.length) (h : k < (airP (l.take k) ++ l.drop k).length) : (airP (l.take k) ++ l.drop k)[k] = l[k] := by
  rw [List.getElem_append_right (by rw [airP_len, List.length_take]; omega)]
  simp only [airP_len, List.length_take, List.getElem_drop]
  congr 1
  omega
theorem air_step {l : List UInt8} {k : Nat} (hk : k < l.length) : airP (l.take (k + 1)) ++ l.drop (k + 1) = (airP (l.take k) ++ l.drop k).set k (airB1 l[k]) := by
  rw [List.take_succ_eq_append_getElem hk]
  have e1 : airP (l.take k ++ [l[k]]) = airP (l.take k) ++ [airB1 l[k]] := by rw [airP_map, List.map_append]; rfl
  have e2 : l.drop k = l[k] :: l.drop (k + 1) := List.drop_eq_getElem_cons hk
  have e3 : k - (airP (l.take k)).length = 0 := by rw [airP_len, List.length_take]; omega
  rw [e1, List.set_append_right _ _ (by rw [airP_len, List.length_take]; omega), e3]
  conv => rhs; rw [e2]
  rw [List.append_assoc]
  rfl
theorem air_same {l : List UInt8} {k : Nat} (hk : k < l.length) (h : airB1 l[k] = l[k]) : airP (l.take (k + 1)) ++ l.drop (k + 1) = airP (l.take k) ++ l.drop k := by
  rw [air_step hk, h]
  have h1 : k < (airP (l.take k) ++ l.drop k).length := by rw [air_len]; exact hk
  have := air_get hk h1
  rw [← this, List.set_getElem_self]
theorem air_take {l : List UInt8} {k : Nat} (hk : k < l.length) (h : airB1 l[k] = l[k]) (h2 : airP (l.take k) = l.take k) : airP (l.take (k + 1)) = l.take (k + 1) := by
  rw [List.take_succ_eq_append_getElem hk, airP_map, List.map_append, ← airP_map, h2]
  show _ ++ [airB1 l[k]] = _
  rw [h]
/-- The state of Replace's loop: a buffer, or none yet. -/
structure AirSt (w : World) (l : List UInt8) (k : Nat) (v : Value) (wr : World) : Prop where
  bel : Below w.heap.size w wr
  buf : (v = .slice none 0 0 ∧ airP (l.take k) = l.take k) ∨ ∃ g C, v = .slice (some ⟨g, 0, none⟩) l.length C ∧ w.heap.size ≤ g ∧ ByteRow wr g (airP (l.take k) ++ l.drop k)
theorem some_eql (g n c : Nat) (W : World) : (binOp .eql 59 (.slice (some ⟨g, 0, none⟩) n c) (.slice none 0 0)).run Tryz.prog W = .ok (.bool false) W := by kernel_rfl
set_option maxRecDepth 100000 in
set_option maxHeartbeats 4000000 in
theorem airrepl_any (l : List UInt8) (R : Nat) (w : World) (hl : l.length ≤ 1000000000) (hR : RowV w R 256 (airF true true)) :
    Calls Tryz.prog 268 #[.pointer (some ⟨R, 0, none⟩), .string (ba l)] w (StrB w (airP l)) := by
  have HROW := Lib.hid (show ∀ w', Below w.heap.size w w' → ∀ j, j < 256 → w'.cell? ⟨R, j, none⟩ = some (airF true true j) from fun w' hb j hj => (hb.cell (p := ⟨R, j, none⟩) hR.lt).trans (hR.cell hj))
  have hnl := nil_eql
  have hcv := fun (W : World) (S : ByteArray) => run_bytes_of_string (P := Tryz.prog) W 9 59 5 S Tryz.underlying9 Tryz.underlying59 Tryz.underlying5
  have HR0 := Lib.hid (fun (W : World) (cap m : Nat) (hm : l.length ≤ m) => ByteRow.of_string W l cap 5 m hm)
  have HRL := Lib.hid (show R < w.heap.size from hR.lt)
  clear hR
  obtain ⟨n, hn⟩ : ∃ n, l.length = n := ⟨_, rfl⟩
  have HL := Lib.hid hn
  obtain ⟨s, hs⟩ : ∃ s, ba l = s := ⟨_, rfl⟩
  have HS := Lib.hid hs
  have HZ := Lib.hid (show s.size = n by rw [← hs, ba_size, hn])
  have hsz : (s.size : Int) = n := by rw [HZ.out]
  rw [hs]
  rw [hn] at hl
  clear hs hn
  rw [HS.out] at HR0
  go_enter Tryz.func268, Tryz.ntmps268
  go_wp2
  go_loopw [5, 6, 7] (fun v i y wr => ∃ (k : Nat) (z : Value), y = z ∧ k ≤ n ∧ i = .int .i64 (k : Int) ∧ Hid (AirSt w l k v wr)) (fun _ i _ _ => n - (intOf i).toNat)
  case atStart => exact ⟨0, _, rfl, Nat.zero_le _, rfl, Lib.hid ⟨Below.refl _ _, .inl ⟨rfl, rfl⟩⟩⟩
  case round =>
    obtain ⟨k, z, rfl, hk, rfl, HR⟩ := hrel
    have hszr := HR.out.bel.size
    by_cases hlt : k < n
    · have hk2 : (k : Int) < (n : Int) := by omega
      have hk0 : (0 : Int) ≤ (k : Int) := by omega
      have hks : k < s.size := by rw [HZ.out]; omega
      have hkl : k < l.length := by rw [HL.out]; omega
      have hget : s[k] = l[k] := by
        have h := HS.out
        subst h
        rfl
      have HST := Lib.hid (air_step hkl)
      have HSA := Lib.hid (air_same hkl)
      have HTA := Lib.hid (air_take hkl)
      have hks2 : k < (airP (l.take k) ++ l.drop k).length := by rw [air_len]; exact hkl
      obtain ⟨c, hc⟩ : ∃ c, l[k] = c := ⟨_, rfl⟩
      rw [hc] at hget HST HSA HTA
      obtain ⟨x, hx⟩ : ∃ x : Int, (c.toNat : Int) = x := ⟨_, rfl⟩
      have hgi : ((s[k]).toNat : Int) = x := by rw [hget]; exact hx
      have HX := Lib.hid hx
      have hx0 : 0 ≤ x := by omega
      have hx1 : x ≤ 255 := by have := c.toNat_lt; omega
      clear hc hkl hget hx
      have hcl := HROW.out wr HR.out.bel x.toNat (by omega)
      have hxn : x.toNat = c.toNat := by have := HX.out; omega
      have HXN := Lib.hid hxn
      clear hxn
      by_cases e1 : x = 13 ∨ x = 10
      · have HA := Lib.hid (show airB1 c = 32 by
          unfold airB1
          rw [if_pos]
          rcases e1 with e1 | e1
          · exact .inl (UInt8.toNat_inj.1 (by have := HX.out; show c.toNat = 13; omega))
          · exact .inr (UInt8.toNat_inj.1 (by have := HX.out; show c.toNat = 10; omega)))
        have hc32 : airF true true x.toNat = .int .u8 32 := by
          unfold airF airN
          rcases e1 with e1 | e1 <;> subst e1 <;> rfl
        rw [hc32] at hcl
        have g1 : ((32 : Int) != x) = true := by rcases e1 with e1 | e1 <;> subst e1 <;> rfl
        have HCL := Lib.hid hc32
        clear e1 hc32
        rcases HR.out.buf with ⟨rfl, hta⟩ | ⟨g, C, rfl, hg, hrow⟩
        · have HB0 := Lib.hid HR.out.bel
          have HTK := Lib.hid hta
          obtain ⟨C, hC⟩ : ∃ C, grownCap wr s.size 0 5 = C := ⟨_, rfl⟩
          have hcvw := hcv wr s
          have hcl2 : l.length ≤ (bytesRow s C).size := by rw [bytesRow_size s C (by rw [← hC]; have := grownCap_ge wr s.size 0 5; omega), ← hC, HL.out]; have := grownCap_ge wr s.size 0 5; have := HZ.out; omega
          rw [hC] at hcvw
          have hrw := HR0.out wr C _ hcl2
          have hRne : ¬ R = wr.heap.size := by
            have h := World.block_lt_of_cell? _ _ hcl
            have h2 : R < wr.heap.size := h
            omega
          have hkl : k < l.length := by rw [HL.out]; exact hlt
          have hfz := hrw.free hkl
          obtain ⟨cv, hce⟩ : ∃ v, (wr.alloc (.cells (bytesRow s C) 5 ((bytesRow s C).size, (bytesRow s C).size + 1))).cell? ⟨wr.heap.size, k, none⟩ = some v := ⟨_, hrw.cell hkl⟩
          have hcz : (wr.alloc (.cells (bytesRow s C) 5 ((bytesRow s C).size, (bytesRow s C).size + 1))).cell? ⟨R, x.toNat, none⟩ = some (.int .u8 32) := (World.cell?_alloc_past _ _ _ (World.block_lt_of_cell? _ _ hcl)).trans hcl
          have HRW := Lib.hid hrw
          have hk3 : (k : Int) < (s.size : Int) := by omega
          have HRS := Lib.hid (show ByteRow ((wr.alloc (.cells (bytesRow s C) 5 ((bytesRow s C).size, (bytesRow s C).size + 1))).setCell ⟨wr.heap.size, k, none⟩ (.int .u8 32)) wr.heap.size (airP (l.take (k + 1)) ++ l.drop (k + 1)) by
            rw [HST.out, HA.out, hta, List.take_append_drop]
            exact hrw.set hkl 32)
          clear HR hta hcv hC hcl2 hrw
          go_wp2
          go_roundw
          case rel => exact ⟨k + 1, _, rfl, by omega, by go_num, Lib.hid ⟨by
            repeat (first | with_reducible exact HB0.out | refine Below.drew ?_ | refine Below.setCell ?_ (by first | exact hszr | (simp; omega)) _ | refine Below.alloc ?_ (by first | exact hszr | (simp; omega)) _), .inr ⟨wr.heap.size, C, by rw [HZ.out, HL.out], hszr, HRS.out⟩⟩⟩
          case measure => simp [intOf] <;> omega
        · have hrow3 := hrow
          have hkl : k < (airP (l.take k) ++ l.drop k).length := by rw [air_len, HL.out]; exact hlt
          have hcell := hrow.cell hkl
          have hfree := hrow.free hkl
          have hsq := some_eql g l.length C
          have hgl := hrow.lt
          have HSET := Lib.hid (hrow.set hkl 32)
          have hgR : ¬ R = g := by have h2 := HRL.out; omega
          have HRS := Lib.hid (show ByteRow (wr.setCell ⟨g, k, none⟩ (.int .u8 32)) g (airP (l.take (k + 1)) ++ l.drop (k + 1)) by
            rw [HST.out, HA.out]
            exact hrow.set hkl 32)
          have hlz : l.length = n := HL.out
          rw [hlz] at hsq ⊢
          have hB := HR.out.bel
          have HBE := Lib.hid hB
          have hg' := hg
          clear hrow hrow3 HR hB hlz hnl hcv
          go_wp2
          go_roundw
          case rel => exact ⟨k + 1, _, rfl, by omega, by go_num, Lib.hid ⟨HBE.out.setCell hg' _, .inr ⟨g, C, by rw [HL.out], hg', HRS.out⟩⟩⟩
          case measure => simp [intOf] <;> omega
      · have HA := Lib.hid (show airB1 c = c by
          unfold airB1
          rw [if_neg]
          rintro (e | e)
          · exact e1 (.inl (by rw [← HX.out, e]; rfl))
          · exact e1 (.inr (by rw [← HX.out, e]; rfl)))
        have hcx : airF true true x.toNat = .int .u8 x := by
          unfold airF airN
          rw [if_neg (by omega), if_neg (by omega)]
          congr 1
          omega
        rw [hcx] at hcl
        have HN := Lib.hid (show AirSt w l (k + 1) _ wr from ⟨HR.out.bel, by
          rcases HR.out.buf with ⟨h1, h2⟩ | ⟨g, C, h1, h2, h3⟩
          · exact .inl ⟨h1, HTA.out HA.out h2⟩
          · exact .inr ⟨g, C, h1, h2, by rw [HSA.out HA.out]; exact h3⟩⟩)
        clear e1 hcx
        go_wp2
        go_roundw
        case rel => exact ⟨k + 1, _, rfl, by omega, by go_num, HN⟩
        case measure => simp [intOf] <;> omega
    · obtain rfl : k = n := by omega
      rcases HR.out.buf with ⟨rfl, hta⟩ | ⟨g, C, rfl, hg, hrow⟩
      · have HF := Lib.hid (show airP l = l by
          rw [List.take_of_length_le (by rw [HL.out]; exact Nat.le_refl _)] at hta
          exact hta)
        clear hta
        go_wp2
        go_ret
        exact str_fin0 (by rw [HF.out]; exact HS.out.symm) HR.out.bel
      · have hsq := some_eql g l.length C
        have hrow2 : ByteRow wr g (airP l) := by
          rw [List.take_of_length_le (by rw [HL.out]; exact Nat.le_refl _), List.drop_of_length_le (by rw [HL.out]; exact Nat.le_refl _), List.append_nil] at hrow
          exact hrow
        have hback := run_convert_bytes_back (P := Tryz.prog) wr 59 9 5 ⟨g, 0, none⟩ C (airP l) Tryz.underlying59 Tryz.underlying5 Tryz.underlying9 hrow2.cells
        rw [airP_len] at hback
        clear hrow hrow2 hnl
        go_wp2
        go_ret
        exact ⟨rfl, HR.out.bel⟩
end Go.Proofs.YtnpgnohlcphfnaaGreatDoor
