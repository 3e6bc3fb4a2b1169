/- The reference of layer 10: the contracts of blank, special and atom. The reference of layer 10: the contract of end (printed by gen_rend.py). The reference of layer 10: the contract of front (printed by gen_rfront.py). -/
import Derived.Handy
import Derived.Test.YtnpgnohlcphfnaaGreatDoorM03
import Derived.Test.YtnpgnohlcphfnaaGreatDoorM01
section
namespace Go.Proofs.YtnpgnohlcphfnaaGreatDoor
open Go.RowKit
set_option linter.unusedVariables false

theorem u8_beq' (c d : UInt8) : (c == d) = decide ((c.toNat : Int) = (d.toNat : Int)) := by
  rw [Bool.eq_iff_iff, beq_iff_eq, decide_eq_true_iff]
  exact ⟨fun h => by rw [h], fun h => UInt8.toNat_inj.1 (by omega)⟩
theorem blankV {c : UInt8} {x : Int} (h : (c.toNat : Int) = x) {b : Bool} (hb : (decide (x = 9) || decide (x = 10) || decide (x = 13) || decide (x = 32)) = b) : blankB c = b := by
  subst h
  rw [← hb]
  unfold blankB
  rw [u8_beq', u8_beq', u8_beq', u8_beq']
  rfl
theorem rblank_any (c : UInt8) (w : World) : Calls Tryz.prog 146 #[.int .u8 (c.toNat : Int)] w fun e w' => e = .returned (.bool (blankB c)) ∧ w' = w := by
  obtain ⟨x, hx⟩ : ∃ x : Int, (c.toNat : Int) = x := ⟨_, rfl⟩
  have HF := Lib.hid (fun b => blankV hx (b := b))
  rw [hx]
  clear hx
  go_enter Tryz.func146, Tryz.ntmps146
  go_wp2
  all_goals
    go_ret
    refine ⟨?_, rfl⟩
    rw [HF.out _ rfl]
    show Ending.returned (Value.bool _) = Ending.returned (Value.bool _)
    first | rfl | (congr 2; rw [Bool.eq_iff_iff]; simp; omega) | (simp; omega)
def SpecRel (c : UInt8) (k : Nat) : Prop := c ∉ specials.take k
set_option maxRecDepth 100000 in
set_option maxHeartbeats 4000000 in
theorem rspecial_any (c : UInt8) (w : World) : Calls Tryz.prog 148 #[.int .u8 (c.toNat : Int)] w fun e w' => e = .returned (.bool (specials.contains c)) ∧ w' = w := by
  obtain ⟨x, hx⟩ : ∃ x : Int, (c.toNat : Int) = x := ⟨_, rfl⟩
  have HX := Lib.hid hx
  rw [hx]
  clear hx
  obtain ⟨sb, hsb⟩ : ∃ b, specials.contains c = b := ⟨_, rfl⟩
  have HSB := Lib.hid hsb
  rw [hsb]
  clear hsb
  go_enter Tryz.func148, Tryz.ntmps148
  go_wp2
  go_loop [3] (fun i => ∃ k : Nat, k ≤ 13 ∧ i = .int .i64 (k : Int) ∧ Hid (SpecRel c k)) (fun i => 13 - (intOf i).toNat)
  case atStart => exact ⟨0, by omega, rfl, Lib.hid (by unfold SpecRel; simp)⟩
  case round =>
    obtain ⟨k, hk, rfl, HR⟩ := hrel
    by_cases hlt : k < 13
    · have hk2 : (k : Int) < 13 := by omega
      have hk0 : (0 : Int) ≤ (k : Int) := by omega
      have hkl : k < specials.length := hlt
      have HIT := Lib.hid (show specials[k] = c → sb = true from fun h => by rw [← HSB.out, ← h]; simp)
      have HST := Lib.hid (show specials[k] ≠ c → SpecRel c (k + 1) from fun h => by
        have := HR.out
        unfold SpecRel at this ⊢
        rw [List.take_succ_eq_append_getElem hkl, List.mem_append, List.mem_singleton, not_or]
        exact ⟨this, fun e => h e.symm⟩)
      obtain ⟨d, hd⟩ : ∃ d, specials[k] = d := ⟨_, rfl⟩
      rw [hd] at HIT HST
      obtain ⟨y, hy⟩ : ∃ y : Int, (d.toNat : Int) = y := ⟨_, rfl⟩
      have hgi : ∀ h : k < (⟨#[40, 41, 60, 62, 91, 93, 58, 59, 64, 92, 44, 46, 34]⟩ : ByteArray).size, (((⟨#[40, 41, 60, 62, 91, 93, 58, 59, 64, 92, 44, 46, 34]⟩ : ByteArray)[k]'h).toNat : Int) = y := fun h => by rw [show ((⟨#[40, 41, 60, 62, 91, 93, 58, 59, 64, 92, 44, 46, 34]⟩ : ByteArray)[k]'h) = d from hd]; exact hy
      have HY := Lib.hid hy
      clear hd hy hkl
      by_cases e1 : y = x
      · have g1 : (y == x) = true := by simpa using e1
        have HV := Lib.hid (HIT.out (u8_int_eq'.1 (by rw [HX.out, HY.out]; exact e1)))
        clear e1
        go_wp2
        go_ret
        exact ⟨by rw [HV.out]; rfl, rfl⟩
      · have g1 : (y == x) = false := by simpa using e1
        have HV := Lib.hid (HST.out fun h => e1 (by rw [← HX.out, ← HY.out, h]))
        clear e1
        go_wp2
        go_round
        case rel => exact ⟨k + 1, by omega, by go_num, HV⟩
        case measure => simp [intOf] <;> omega
    · obtain rfl : k = 13 := by omega
      have HV := Lib.hid (show sb = false by
        have := HR.out
        unfold SpecRel at this
        rw [List.take_of_length_le (by decide)] at this
        rw [← HSB.out]
        simpa using this)
      go_wp2
      go_ret
      exact ⟨by rw [HV.out]; rfl, rfl⟩
theorem atomV {c : UInt8} {x : Int} (h : (c.toNat : Int) = x) : atomB c = (decide (32 < x) && decide (x ≠ 127) && !specials.contains c) := by
  subst h
  unfold atomB
  have h1 : decide (32 < c) = decide (32 < (c.toNat : Int)) := by
    rw [Bool.eq_iff_iff, decide_eq_true_iff, decide_eq_true_iff, UInt8.lt_iff_toNat_lt]
    show (32 : Nat) < c.toNat ↔ _
    omega
  have h2 : (c != 127) = decide ((c.toNat : Int) ≠ 127) := by
    unfold bne
    rw [u8_beq', decide_not]
    rfl
  rw [h1, h2]
theorem ratom_any (c : UInt8) (w : World) : Calls Tryz.prog 149 #[.int .u8 (c.toNat : Int)] w fun e w' => e = .returned (.bool (atomB c)) ∧ w' = w := by
  have hsp := rspecial_any c
  obtain ⟨x, hx⟩ : ∃ x : Int, (c.toNat : Int) = x := ⟨_, rfl⟩
  have HF := Lib.hid (atomV hx)
  rw [hx] at hsp ⊢
  clear hx
  obtain ⟨sb, hsb⟩ : ∃ b, specials.contains c = b := ⟨_, rfl⟩
  rw [hsb] at hsp HF
  have HS := Lib.hid hsp
  clear hsb hsp
  by_cases e1 : 32 < x
  · have g1 : decide (32 < x) = true := decide_eq_true e1
    by_cases e2 : x = 127
    · have g2 : (x != 127) = false := by simp [e2]
      have HG := Lib.hid (show atomB c = false by rw [HF.out]; simp [e2])
      clear HF e1 e2
      go_enter Tryz.func149, Tryz.ntmps149
      go_wp2
      go_ret
      exact ⟨by rw [HG.out]; rfl, rfl⟩
    · have g2 : (x != 127) = true := by simpa using e2
      have HG := Lib.hid (show atomB c = !sb by rw [HF.out, g1]; simp [e2])
      clear HF e1 e2
      go_enter Tryz.func149, Tryz.ntmps149
      go_wp2_with fail
      refine (HS.out w).mono ?_
      rintro e w' ⟨rfl, rfl⟩
      go_wp2
      go_ret
      exact ⟨by rw [HG.out]; rfl, rfl⟩
  · have g1 : decide (32 < x) = false := decide_eq_false e1
    have HG := Lib.hid (show atomB c = false by rw [HF.out, g1]; rfl)
    clear HF e1
    go_enter Tryz.func149, Tryz.ntmps149
    go_wp2
    go_ret
    exact ⟨by rw [HG.out]; rfl, rfl⟩
end Go.Proofs.YtnpgnohlcphfnaaGreatDoor
end
section
namespace Go.Proofs.YtnpgnohlcphfnaaGreatDoor
open Go.RowKit
set_option linter.unusedVariables false

def endV (z : UInt8) (l : List UInt8) : Nat := match closeP z 1 (l.drop 1) with
  | some m => m + 1
  | none => 0
theorem endV_hit {z : UInt8} {l : List UInt8} {k : Nat} (hk : k < l.length) (h1 : 1 ≤ k) (h : ClRel z l 1 k) (h2 : l[k] ≠ 92) (h3 : l[k] = z) : endV z l = k + 1 := by
  unfold ClRel at h
  unfold endV
  rw [drop_at hk, closeP_cons, if_neg h2, if_pos h3, if_pos rfl] at h
  rw [h]
  show 1 + (k - 1) + 1 = _
  omega
theorem endV_end {z : UInt8} {l : List UInt8} {d k : Nat} (hk : l.length ≤ k) (h : ClRel z l d k) : endV z l = 0 := by
  unfold ClRel at h
  unfold endV
  rw [List.drop_of_length_le hk] at h
  have h0 : closeP z d [] = none := by unfold closeP; rfl
  rw [h0] at h
  rw [h]
  rfl
theorem cl_skip {z : UInt8} {l : List UInt8} {d k : Nat} (hk : k < l.length) (h1 : 1 ≤ k) (h : ClRel z l d k) (h2 : l[k] = 92) : ClRel z l d (k + 2) := by
  unfold ClRel at h ⊢
  rw [drop_at hk, closeP_cons, if_pos h2, List.drop_drop, map_map_add, show k + 1 + 1 = k + 2 by omega, show 2 + (k - 1) = k + 2 - 1 by omega] at h
  exact h
theorem cl_less {z : UInt8} {l : List UInt8} {d k : Nat} (hk : k < l.length) (h1 : 1 ≤ k) (h : ClRel z l d k) (h2 : l[k] ≠ 92) (h3 : l[k] = z) (h4 : d ≠ 1) : ClRel z l (d - 1) (k + 1) := by
  unfold ClRel at h ⊢
  rw [drop_at hk, closeP_cons, if_neg h2, if_pos h3, if_neg h4, map_map_add, show 1 + (k - 1) = k + 1 - 1 by omega] at h
  exact h
theorem cl_more {l : List UInt8} {d k : Nat} (hk : k < l.length) (h1 : 1 ≤ k) (h : ClRel 41 l d k) (h2 : l[k] ≠ 92) (h3 : l[k] ≠ 41) (h4 : l[k] = 40) : ClRel 41 l (d + 1) (k + 1) := by
  unfold ClRel at h ⊢
  rw [drop_at hk, closeP_cons, if_neg h2, if_neg h3, if_pos ⟨h4, rfl⟩, map_map_add, show 1 + (k - 1) = k + 1 - 1 by omega] at h
  exact h
theorem cl_on {z : UInt8} {l : List UInt8} {d k : Nat} (hk : k < l.length) (h1 : 1 ≤ k) (h : ClRel z l d k) (h2 : l[k] ≠ 92) (h3 : l[k] ≠ z) (h4 : ¬ (l[k] = 40 ∧ z = 41)) : ClRel z l d (k + 1) := by
  unfold ClRel at h ⊢
  rw [drop_at hk, closeP_cons, if_neg h2, if_neg h3, if_neg h4, map_map_add, show 1 + (k - 1) = k + 1 - 1 by omega] at h
  exact h
set_option maxRecDepth 100000 in
set_option maxHeartbeats 4000000 in
theorem rend_40 (r : List UInt8) (w : World) (hl : (40 :: r : List UInt8).length ≤ 1000000000) :
    Calls Tryz.prog 147 #[.string (ba (40 :: r))] w fun e w' => e = .returned (.int .i64 (endV 41 (40 :: r) : Nat)) ∧ w' = w := by
  obtain ⟨l, hll⟩ : ∃ l, (40 :: r : List UInt8) = l := ⟨_, rfl⟩
  have h0 : ∀ h : 0 < l.length, l[0] = 40 := fun h => by subst hll; rfl
  have hne : 0 < l.length := by rw [← hll]; simp
  have HCL0 := Lib.hid (show ClRel 41 l 1 1 by unfold ClRel; simp)
  rw [hll] at hl ⊢
  have H00 := Lib.hid (h0 hne)
  clear hll h0
  obtain ⟨n, hn⟩ : ∃ n, l.length = n := ⟨_, rfl⟩
  have HL := Lib.hid hn
  obtain ⟨s, hs⟩ : ∃ s, ba l = s := ⟨_, rfl⟩
  have HS := Lib.hid hs
  have HZ := Lib.hid (show s.size = n by rw [← hs, ba_size, hn])
  have hsz : (s.size : Int) = n := by rw [HZ.out]
  rw [hs]
  rw [hn] at hl
  clear hs hn
  have hg0 : ∀ h : 0 < s.size, ((s[0]).toNat : Int) = 40 := fun h => by
    have h2 := HS.out
    subst h2
    show ((l[0]'hne).toNat : Int) = 40
    rw [H00.out]
    rfl
  have hp0 : 0 < s.size := by rw [HZ.out, ← HL.out]; exact hne
  clear H00 hne
  go_enter Tryz.func147, Tryz.ntmps147
  go_wp2
  go_loop [3, 4, 5] (fun dv i cv => ∃ (d k : Nat) (y : Value), cv = y ∧ 1 ≤ k ∧ k ≤ n + 1 ∧ d < k ∧ i = .int .i64 (k : Int) ∧ dv = .int .i64 (d : Int) ∧ Hid (ClRel 41 l (d + 1) k)) (fun _ i _ => n + 1 - (intOf i).toNat)
  case atStart => exact ⟨0, 1, _, rfl, by omega, by omega, by omega, rfl, rfl, HCL0⟩
  case round =>
    obtain ⟨d, k, y, rfl, hk1, hkn, hdk, rfl, rfl, HR⟩ := hrel
    by_cases hlt : k < n
    · have hk2 : (k : Int) < (n : Int) := by omega
      have hk0 : (0 : Int) ≤ (k : Int) := by omega
      have hks : k < s.size := by rw [HZ.out]; omega
      have hkl : k < l.length := by rw [HL.out]; omega
      have hget : s[k] = l[k] := by
        have h := HS.out
        subst h
        rfl
      have HSK := Lib.hid (cl_skip hkl hk1 HR.out)
      have HHIT := Lib.hid (endV_hit (z := 41) hkl hk1)
      have HLESS := Lib.hid (cl_less hkl hk1 HR.out)
      have HON := Lib.hid (cl_on hkl hk1 HR.out)
      have HMORE := Lib.hid (cl_more hkl hk1 HR.out)
      obtain ⟨c, hc⟩ : ∃ c, l[k] = c := ⟨_, rfl⟩
      rw [hc] at hget HSK HHIT HLESS HON HMORE
      obtain ⟨x, hx⟩ : ∃ x : Int, (c.toNat : Int) = x := ⟨_, rfl⟩
      have hgi : ((s[k]).toNat : Int) = x := by rw [hget]; exact hx
      have HX := Lib.hid hx
      have hx0 : 0 ≤ x := by omega
      have hx1 : x ≤ 255 := by have := c.toNat_lt; omega
      clear hc hkl hget hx
      by_cases e1 : x = 92
      · have g1 : (x == 92) = true := by simpa using e1
        have HN2 := Lib.hid (HSK.out (u8_int_eq.1 (by rw [HX.out]; exact e1)))
        clear e1
        go_wp2
        go_round
        case rel => exact ⟨d, k + 2, _, rfl, by omega, by omega, by omega, by go_num, rfl, HN2⟩
        case measure => simp [intOf] <;> omega
      have g1 : (x == 92) = false := by simpa using e1
      have HC := Lib.hid (show c ≠ 92 from fun h => e1 (by rw [← HX.out, h]; rfl))
      by_cases e2 : x = 41
      · have g2 : (x == 41) = true := by simpa using e2
        have g3 : (x == 40) = false := by simp [e2]
        have HE := Lib.hid (show c = 41 from u8_int_eq.1 (by rw [HX.out]; exact e2))
        by_cases hd : d = 0
        · have HV := Lib.hid (HHIT.out (by have := HR.out; rw [hd] at this; exact this) HC.out HE.out)
          have gd : ((d : Int) == 0) = true := by simp; omega
          clear e1 e2 HR hd
          go_wp2
          go_ret
          exact ⟨by rw [HV.out]; go_num, rfl⟩
        · have HN2 := Lib.hid (HLESS.out HC.out HE.out (by omega))
          have gd : ((d : Int) == 0) = false := by simp; omega
          have hcast : ((d - 1 : Nat) : Int) = (d : Int) - 1 := by omega
          have HCAST := Lib.hid hcast
          clear hcast
          have hd2 : (1 : Int) ≤ (d : Int) := by omega
          clear e1 e2 HR
          go_wp2
          go_round
          case rel => exact ⟨d - 1, k + 1, _, rfl, by omega, by omega, by omega, by go_num, by rw [HCAST.out], Lib.hid (by have := HN2.out; rw [show d - 1 + 1 = d + 1 - 1 by omega]; exact this)⟩
          case measure => simp [intOf] <;> omega
      · have g2 : (x == 41) = false := by simpa using e2
        have HE := Lib.hid (show c ≠ 41 from fun h => e2 (by rw [← HX.out, h]; rfl))
        by_cases e3 : x = 40
        · have g3 : (x == 40) = true := by simpa using e3
          have HN2 := Lib.hid (HMORE.out HC.out HE.out (u8_int_eq.1 (by rw [HX.out]; exact e3)))
          clear e1 e2 e3 HR
          go_wp2
          go_round
          case rel => exact ⟨d + 1, k + 1, _, rfl, by omega, by omega, by omega, by go_num, by go_num, HN2⟩
          case measure => simp [intOf] <;> omega
        · have g3 : (x == 40) = false := by simpa using e3
          have HN2 := Lib.hid (HON.out HC.out HE.out fun h => e3 (by rw [← HX.out, h.1]; rfl))
          clear e1 e2 e3 HR
          go_wp2
          go_round
          case rel => exact ⟨d, k + 1, _, rfl, by omega, by omega, by omega, by go_num, rfl, HN2⟩
          case measure => simp [intOf] <;> omega
    · have hk2 : ¬ (k : Int) < (n : Int) := by omega
      have HV := Lib.hid (endV_end (by rw [HL.out]; omega) HR.out)
      go_wp2
      go_ret
      exact ⟨by rw [HV.out]; rfl, rfl⟩
set_option maxRecDepth 100000 in
set_option maxHeartbeats 4000000 in
theorem rend_34 (r : List UInt8) (w : World) (hl : (34 :: r : List UInt8).length ≤ 1000000000) :
    Calls Tryz.prog 147 #[.string (ba (34 :: r))] w fun e w' => e = .returned (.int .i64 (endV 34 (34 :: r) : Nat)) ∧ w' = w := by
  obtain ⟨l, hll⟩ : ∃ l, (34 :: r : List UInt8) = l := ⟨_, rfl⟩
  have h0 : ∀ h : 0 < l.length, l[0] = 34 := fun h => by subst hll; rfl
  have hne : 0 < l.length := by rw [← hll]; simp
  have HCL0 := Lib.hid (show ClRel 34 l 1 1 by unfold ClRel; simp)
  rw [hll] at hl ⊢
  have H00 := Lib.hid (h0 hne)
  clear hll h0
  obtain ⟨n, hn⟩ : ∃ n, l.length = n := ⟨_, rfl⟩
  have HL := Lib.hid hn
  obtain ⟨s, hs⟩ : ∃ s, ba l = s := ⟨_, rfl⟩
  have HS := Lib.hid hs
  have HZ := Lib.hid (show s.size = n by rw [← hs, ba_size, hn])
  have hsz : (s.size : Int) = n := by rw [HZ.out]
  rw [hs]
  rw [hn] at hl
  clear hs hn
  have hg0 : ∀ h : 0 < s.size, ((s[0]).toNat : Int) = 34 := fun h => by
    have h2 := HS.out
    subst h2
    show ((l[0]'hne).toNat : Int) = 34
    rw [H00.out]
    rfl
  have hp0 : 0 < s.size := by rw [HZ.out, ← HL.out]; exact hne
  clear H00 hne
  go_enter Tryz.func147, Tryz.ntmps147
  go_wp2
  go_loop [3, 4, 5] (fun dv i cv => ∃ (d k : Nat) (y : Value), cv = y ∧ 1 ≤ k ∧ k ≤ n + 1 ∧ d = 0 ∧ i = .int .i64 (k : Int) ∧ dv = .int .i64 (d : Int) ∧ Hid (ClRel 34 l 1 k)) (fun _ i _ => n + 1 - (intOf i).toNat)
  case atStart => exact ⟨0, 1, _, rfl, by omega, by omega, by omega, rfl, rfl, HCL0⟩
  case round =>
    obtain ⟨d, k, y, rfl, hk1, hkn, hdk, rfl, rfl, HR⟩ := hrel
    by_cases hlt : k < n
    · have hk2 : (k : Int) < (n : Int) := by omega
      have hk0 : (0 : Int) ≤ (k : Int) := by omega
      have hks : k < s.size := by rw [HZ.out]; omega
      have hkl : k < l.length := by rw [HL.out]; omega
      have hget : s[k] = l[k] := by
        have h := HS.out
        subst h
        rfl
      have HSK := Lib.hid (cl_skip hkl hk1 HR.out)
      have HHIT := Lib.hid (endV_hit (z := 34) hkl hk1)
      have HLESS := Lib.hid (cl_less hkl hk1 HR.out)
      have HON := Lib.hid (cl_on hkl hk1 HR.out)
      obtain ⟨c, hc⟩ : ∃ c, l[k] = c := ⟨_, rfl⟩
      rw [hc] at hget HSK HHIT HLESS HON
      obtain ⟨x, hx⟩ : ∃ x : Int, (c.toNat : Int) = x := ⟨_, rfl⟩
      have hgi : ((s[k]).toNat : Int) = x := by rw [hget]; exact hx
      have HX := Lib.hid hx
      have hx0 : 0 ≤ x := by omega
      have hx1 : x ≤ 255 := by have := c.toNat_lt; omega
      clear hc hkl hget hx
      by_cases e1 : x = 92
      · have g1 : (x == 92) = true := by simpa using e1
        have HN2 := Lib.hid (HSK.out (u8_int_eq.1 (by rw [HX.out]; exact e1)))
        clear e1
        go_wp2
        go_round
        case rel => exact ⟨d, k + 2, _, rfl, by omega, by omega, by omega, by go_num, rfl, HN2⟩
        case measure => simp [intOf] <;> omega
      have g1 : (x == 92) = false := by simpa using e1
      have HC := Lib.hid (show c ≠ 92 from fun h => e1 (by rw [← HX.out, h]; rfl))
      by_cases e2 : x = 34
      · have g2 : (x == 34) = true := by simpa using e2
        have HE := Lib.hid (show c = 34 from u8_int_eq.1 (by rw [HX.out]; exact e2))
        have HV := Lib.hid (HHIT.out HR.out HC.out HE.out)
        clear e1 e2 HR
        go_wp2
        go_ret
        exact ⟨by rw [HV.out]; go_num, rfl⟩
      · have g2 : (x == 34) = false := by simpa using e2
        have HE := Lib.hid (show c ≠ 34 from fun h => e2 (by rw [← HX.out, h]; rfl))
        have HN2 := Lib.hid (HON.out HC.out HE.out (fun h => absurd h.2 (by decide)))
        clear e1 e2 HR
        go_wp2
        go_round
        case rel => exact ⟨d, k + 1, _, rfl, by omega, by omega, by omega, by go_num, rfl, HN2⟩
        case measure => simp [intOf] <;> omega
    · have hk2 : ¬ (k : Int) < (n : Int) := by omega
      have HV := Lib.hid (endV_end (by rw [HL.out]; omega) HR.out)
      go_wp2
      go_ret
      exact ⟨by rw [HV.out]; rfl, rfl⟩
set_option maxRecDepth 100000 in
set_option maxHeartbeats 4000000 in
theorem rend_91 (r : List UInt8) (w : World) (hl : (91 :: r : List UInt8).length ≤ 1000000000) :
    Calls Tryz.prog 147 #[.string (ba (91 :: r))] w fun e w' => e = .returned (.int .i64 (endV 93 (91 :: r) : Nat)) ∧ w' = w := by
  obtain ⟨l, hll⟩ : ∃ l, (91 :: r : List UInt8) = l := ⟨_, rfl⟩
  have h0 : ∀ h : 0 < l.length, l[0] = 91 := fun h => by subst hll; rfl
  have hne : 0 < l.length := by rw [← hll]; simp
  have HCL0 := Lib.hid (show ClRel 93 l 1 1 by unfold ClRel; simp)
  rw [hll] at hl ⊢
  have H00 := Lib.hid (h0 hne)
  clear hll h0
  obtain ⟨n, hn⟩ : ∃ n, l.length = n := ⟨_, rfl⟩
  have HL := Lib.hid hn
  obtain ⟨s, hs⟩ : ∃ s, ba l = s := ⟨_, rfl⟩
  have HS := Lib.hid hs
  have HZ := Lib.hid (show s.size = n by rw [← hs, ba_size, hn])
  have hsz : (s.size : Int) = n := by rw [HZ.out]
  rw [hs]
  rw [hn] at hl
  clear hs hn
  have hg0 : ∀ h : 0 < s.size, ((s[0]).toNat : Int) = 91 := fun h => by
    have h2 := HS.out
    subst h2
    show ((l[0]'hne).toNat : Int) = 91
    rw [H00.out]
    rfl
  have hp0 : 0 < s.size := by rw [HZ.out, ← HL.out]; exact hne
  clear H00 hne
  go_enter Tryz.func147, Tryz.ntmps147
  go_wp2
  go_loop [3, 4, 5] (fun dv i cv => ∃ (d k : Nat) (y : Value), cv = y ∧ 1 ≤ k ∧ k ≤ n + 1 ∧ d = 0 ∧ i = .int .i64 (k : Int) ∧ dv = .int .i64 (d : Int) ∧ Hid (ClRel 93 l 1 k)) (fun _ i _ => n + 1 - (intOf i).toNat)
  case atStart => exact ⟨0, 1, _, rfl, by omega, by omega, by omega, rfl, rfl, HCL0⟩
  case round =>
    obtain ⟨d, k, y, rfl, hk1, hkn, hdk, rfl, rfl, HR⟩ := hrel
    by_cases hlt : k < n
    · have hk2 : (k : Int) < (n : Int) := by omega
      have hk0 : (0 : Int) ≤ (k : Int) := by omega
      have hks : k < s.size := by rw [HZ.out]; omega
      have hkl : k < l.length := by rw [HL.out]; omega
      have hget : s[k] = l[k] := by
        have h := HS.out
        subst h
        rfl
      have HSK := Lib.hid (cl_skip hkl hk1 HR.out)
      have HHIT := Lib.hid (endV_hit (z := 93) hkl hk1)
      have HLESS := Lib.hid (cl_less hkl hk1 HR.out)
      have HON := Lib.hid (cl_on hkl hk1 HR.out)
      obtain ⟨c, hc⟩ : ∃ c, l[k] = c := ⟨_, rfl⟩
      rw [hc] at hget HSK HHIT HLESS HON
      obtain ⟨x, hx⟩ : ∃ x : Int, (c.toNat : Int) = x := ⟨_, rfl⟩
      have hgi : ((s[k]).toNat : Int) = x := by rw [hget]; exact hx
      have HX := Lib.hid hx
      have hx0 : 0 ≤ x := by omega
      have hx1 : x ≤ 255 := by have := c.toNat_lt; omega
      clear hc hkl hget hx
      by_cases e1 : x = 92
      · have g1 : (x == 92) = true := by simpa using e1
        have HN2 := Lib.hid (HSK.out (u8_int_eq.1 (by rw [HX.out]; exact e1)))
        clear e1
        go_wp2
        go_round
        case rel => exact ⟨d, k + 2, _, rfl, by omega, by omega, by omega, by go_num, rfl, HN2⟩
        case measure => simp [intOf] <;> omega
      have g1 : (x == 92) = false := by simpa using e1
      have HC := Lib.hid (show c ≠ 92 from fun h => e1 (by rw [← HX.out, h]; rfl))
      by_cases e2 : x = 93
      · have g2 : (x == 93) = true := by simpa using e2
        have HE := Lib.hid (show c = 93 from u8_int_eq.1 (by rw [HX.out]; exact e2))
        have HV := Lib.hid (HHIT.out HR.out HC.out HE.out)
        clear e1 e2 HR
        go_wp2
        go_ret
        exact ⟨by rw [HV.out]; go_num, rfl⟩
      · have g2 : (x == 93) = false := by simpa using e2
        have HE := Lib.hid (show c ≠ 93 from fun h => e2 (by rw [← HX.out, h]; rfl))
        have HN2 := Lib.hid (HON.out HC.out HE.out (fun h => absurd h.2 (by decide)))
        clear e1 e2 HR
        go_wp2
        go_round
        case rel => exact ⟨d, k + 1, _, rfl, by omega, by omega, by omega, by go_num, rfl, HN2⟩
        case measure => simp [intOf] <;> omega
    · have hk2 : ¬ (k : Int) < (n : Int) := by omega
      have HV := Lib.hid (endV_end (by rw [HL.out]; omega) HR.out)
      go_wp2
      go_ret
      exact ⟨by rw [HV.out]; rfl, rfl⟩
end Go.Proofs.YtnpgnohlcphfnaaGreatDoor
end
section
namespace Go.Proofs.YtnpgnohlcphfnaaGreatDoor
open Go.RowKit
set_option linter.unusedVariables false

def FrontPost (w : World) (l : List UInt8) (e : Ending) (w' : World) : Prop := e = .returned (.agg #[.int .i64 (frontP l).1, .string (ba (l.take (frontP l).2))]) ∧ Below w.heap.size w w'
theorem front_fin {w w' : World} {l : List UInt8} {s : ByteArray} {k : Int} {m : Nat} {t : ByteArray} (hs : ba l = s) (ht : t = s.extract 0 m) (hf : frontP l = (k, m)) (hb : Below w.heap.size w w') : FrontPost w l (.returned (.agg #[.int .i64 k, .string t])) w' := by
  subst hs
  subst ht
  unfold FrontPost
  rw [hf]
  exact ⟨by rw [ba_cut]; rfl, hb⟩
theorem endV_le {z c : UInt8} {r : List UInt8} : endV z (c :: r) ≤ r.length + 1 := by
  unfold endV
  rw [show (c :: r).drop 1 = r from rfl]
  split
  · rename_i m hm
    have := closeP_le _ _ _ _ hm
    omega
  · omega
theorem front_opened {c z : UInt8} {r : List UInt8} {k : Int} (hb : blankB c = false) (ho : opens c = some (k, z)) :
    frontP (c :: r) = if endV z (c :: r) = 0 then (7, r.length + 1) else (k, endV z (c :: r)) := by
  rw [frontP_cons, if_neg (by rw [hb]; decide), ho]
  unfold endV
  rw [show (c :: r).drop 1 = r from rfl]
  show (match closeP z 1 r with | some n => (k, n + 1) | none => (7, r.length + 1)) = _
  split <;> simp
set_option maxRecDepth 100000 in
set_option maxHeartbeats 4000000 in
theorem rfront_blank (c : UInt8) (r : List UInt8) (w : World) (hl : (c :: r).length ≤ 1000000000) (hc : blankB c = true) :
    Calls Tryz.prog 109 #[.string (ba (c :: r))] w (FrontPost w (c :: r)) := by
  have HBC := Lib.hid hc
  obtain ⟨l, hll⟩ : ∃ l, (c :: r : List UInt8) = l := ⟨_, rfl⟩
  have h0 : ∀ h : 0 < l.length, l[0] = c := fun h => by subst hll; rfl
  have hne : 0 < l.length := by rw [← hll]; simp
  have hnr : l.length = r.length + 1 := by rw [← hll]; simp
  have HNR := Lib.hid hnr
  have HLL := Lib.hid hll
  have H00 := Lib.hid (h0 hne)
  clear h0 hnr
  have HFV := Lib.hid (show ∀ m, (l.takeWhile blankB).length = m → frontP l = (6, m) from fun m hm => by
    rw [← HLL.out, frontP_cons, if_pos hc, HLL.out, hm])
  clear hc
  rw [hll] at hl ⊢
  clear hll
  obtain ⟨n, hn⟩ : ∃ n, l.length = n := ⟨_, rfl⟩
  have HL := Lib.hid hn
  obtain ⟨s, hs⟩ : ∃ s, ba l = s := ⟨_, rfl⟩
  have HS := Lib.hid hs
  have HZ := Lib.hid (show s.size = n by rw [← hs, ba_size, hn])
  have hsz : (s.size : Int) = n := by rw [HZ.out]
  rw [hs]
  rw [hn] at hl
  clear hs hn
  have hpos : 0 < n := by rw [← HL.out]; exact hne
  go_enter Tryz.func109, Tryz.ntmps109
  go_wp2
  go_loop [3] (fun i => ∃ k : Nat, k ≤ n ∧ i = .int .i64 (k : Int) ∧ Hid (∀ j (hj : j < l.length), j < k → blankB l[j] = true)) (fun i => n - (intOf i).toNat)
  case atStart => exact ⟨0, Nat.zero_le _, rfl, Lib.hid fun j _ h => absurd h (by omega)⟩
  case round =>
    obtain ⟨k, hk, rfl, HA⟩ := hrel
    by_cases hlt : k < n
    · have hk2 : (k : Int) < (n : Int) := by omega
      have hk0 : (0 : Int) ≤ (k : Int) := by omega
      have hks : k < s.size := by rw [HZ.out]; omega
      have hkl : k < l.length := by rw [HL.out]; omega
      have hget : s[k] = l[k] := by
        have h := HS.out
        subst h
        rfl
      have HST := Lib.hid (tw_stop (p := blankB) hkl HA.out)
      have HNX := Lib.hid (show blankB l[k] = true → ∀ j (hj : j < l.length), j < k + 1 → blankB l[j] = true from fun h j hj hjk => by
        rcases Nat.lt_or_ge j k with h1 | h1
        · exact HA.out j hj h1
        · have : j = k := by omega
          subst this; exact h)
      have HZ0 := Lib.hid (show k = 0 → l[k] = c from fun h => by subst h; exact H00.out)
      obtain ⟨d, hc⟩ : ∃ c, l[k] = c := ⟨_, rfl⟩
      rw [hc] at hget HST HNX HZ0
      obtain ⟨x, hx⟩ : ∃ x : Int, (d.toNat : Int) = x := ⟨_, rfl⟩
      have hgi : ((s[k]).toNat : Int) = x := by rw [hget]; exact hx
      have HX := Lib.hid hx
      have hx0 : 0 ≤ x := by omega
      have hx1 : x ≤ 255 := by have := d.toNat_lt; omega
      clear hc hkl hget hx
      have hblk := rblank_any d
      rw [HX.out] at hblk
      obtain ⟨b, hb⟩ : ∃ b, blankB d = b := ⟨_, rfl⟩
      rw [hb] at hblk HST HNX
      have HBK := Lib.hid hblk
      have HBB := Lib.hid hb
      clear hblk hb
      cases b
      · have HF := Lib.hid (HST.out rfl)
        have hkp : 0 < k := by
          rcases Nat.eq_zero_or_pos k with h | h
          · have h1 := HBB.out
            rw [HZ0.out h, HBC.out] at h1
            cases h1
          · exact h
        have hkp2 : decide (0 < (k : Int)) = true := decide_eq_true (by omega)
        go_wp2_with fail
        refine (HBK.out _).mono ?_
        rintro e w' ⟨rfl, rfl⟩
        go_wp2
        go_returns
        exact front_fin HS.out rfl (HFV.out _ HF.out) ((Below.refl _ _).alloc (Nat.le_refl _) _)
      · have HXX := Lib.hid (HNX.out rfl)
        go_wp2_with fail
        refine (HBK.out _).mono ?_
        rintro e w' ⟨rfl, rfl⟩
        go_wp2
        go_round
        case rel => exact ⟨k + 1, by omega, by go_num, HXX⟩
        case measure => simp [intOf] <;> omega
    · obtain rfl : k = n := by omega
      have HF := Lib.hid (show (l.takeWhile blankB).length = k by rw [tw_all fun j hj => HA.out j hj (by rw [HL.out] at hj; exact hj), HL.out])
      have hkp : 0 < k := hpos
      have hkp2 : decide (0 < (k : Int)) = true := decide_eq_true (by omega)
      clear hpos
      go_wp2
      go_returns
      exact front_fin HS.out rfl (HFV.out _ HF.out) ((Below.refl _ _).alloc (Nat.le_refl _) _)
set_option maxRecDepth 100000 in
set_option maxHeartbeats 4000000 in
theorem rfront_40 (r : List UInt8) (w : World) (hl : (40 :: r : List UInt8).length ≤ 1000000000) :
    Calls Tryz.prog 109 #[.string (ba (40 :: r))] w (FrontPost w (40 :: r)) := by
  have HEND := Lib.hid (fun W => rend_40 r W hl)
  have HFO := Lib.hid (front_opened (r := r) (show blankB 40 = false by decide) (show opens 40 = some (3, 41) by decide))
  have HLE := Lib.hid (endV_le (z := 41) (c := 40) (r := r))
  have hblk := rblank_any 40
  rw [show blankB 40 = false by decide] at hblk
  obtain ⟨l, hll⟩ : ∃ l, (40 :: r : List UInt8) = l := ⟨_, rfl⟩
  have h0 : ∀ h : 0 < l.length, l[0] = 40 := fun h => by subst hll; rfl
  have hne : 0 < l.length := by rw [← hll]; simp
  have HNR := Lib.hid (show l.length = r.length + 1 by rw [← hll]; simp)
  have H00 := Lib.hid (h0 hne)
  rw [hll] at hl HEND HFO HLE ⊢
  clear h0 hll
  obtain ⟨n, hn⟩ : ∃ n, l.length = n := ⟨_, rfl⟩
  have HL := Lib.hid hn
  obtain ⟨s, hs⟩ : ∃ s, ba l = s := ⟨_, rfl⟩
  have HS := Lib.hid hs
  have HZ := Lib.hid (show s.size = n by rw [← hs, ba_size, hn])
  have hsz : (s.size : Int) = n := by rw [HZ.out]
  rw [hs]
  rw [hn] at hl
  clear hs hn
  rw [HS.out] at HEND
  have hp0n : 0 < n := by rw [← HL.out]; exact hne
  have hp0 : 0 < s.size := by rw [HZ.out]; exact hp0n
  have hg0 : ∀ h : 0 < s.size, ((s[0]).toNat : Int) = 40 := fun h => by
    have h2 := HS.out
    subst h2
    show ((l[0]'hne).toNat : Int) = 40
    rw [H00.out]
    rfl
  have HBK := Lib.hid hblk
  clear hblk H00 hne
  obtain ⟨v, hv⟩ : ∃ v, endV 41 l = v := ⟨_, rfl⟩
  rw [hv] at HFO HLE
  simp only [hv] at HEND
  clear hv
  have hvn : v ≤ n := by have := HLE.out; have := HNR.out; have := HL.out; omega
  have hvi : (v : Int) ≤ (s.size : Int) := by omega
  have hv0 : (0 : Int) ≤ (v : Int) := by omega
  by_cases ev : v = 0
  · have gv : ((v : Int) == 0) = true := by simp; omega
    have HFV := Lib.hid (show frontP l = (7, n) by rw [HFO.out, if_pos ev, ← HNR.out, HL.out])
    have HEX := Lib.hid (show s = s.extract 0 n by rw [← HZ.out]; simp)
    clear ev
    go_enter Tryz.func109, Tryz.ntmps109
    go_wp2
    go_loop [3] (fun i => i = .int .i64 ((0 : Nat) : Int)) (fun _ => 0)
    case atStart => rfl
    case round =>
      subst hrel
      have hp0i : ((0 : Nat) : Int) < (n : Int) := by omega
      go_wp2_with fail
      refine (HBK.out _).mono ?_
      rintro e w' ⟨rfl, rfl⟩
  
      clear HBK
      go_wp2_with fail
      refine (HEND.out _).mono ?_
      rintro e w' ⟨rfl, rfl⟩
      go_wp2
      go_returns
      exact front_fin HS.out HEX.out HFV.out ((Below.refl _ _).alloc (Nat.le_refl _) _)
  · have gv : ((v : Int) == 0) = false := by simp; omega
    have HFV := Lib.hid (show frontP l = (3, v) by rw [HFO.out, if_neg ev])
    clear ev
    go_enter Tryz.func109, Tryz.ntmps109
    go_wp2
    go_loop [3] (fun i => i = .int .i64 ((0 : Nat) : Int)) (fun _ => 0)
    case atStart => rfl
    case round =>
      subst hrel
      have hp0i : ((0 : Nat) : Int) < (n : Int) := by omega
      go_wp2_with fail
      refine (HBK.out _).mono ?_
      rintro e w' ⟨rfl, rfl⟩
  
      clear HBK
      go_wp2_with fail
      refine (HEND.out _).mono ?_
      rintro e w' ⟨rfl, rfl⟩
      go_wp2
      go_returns
      exact front_fin HS.out rfl HFV.out ((Below.refl _ _).alloc (Nat.le_refl _) _)
set_option maxRecDepth 100000 in
set_option maxHeartbeats 4000000 in
theorem rfront_34 (r : List UInt8) (w : World) (hl : (34 :: r : List UInt8).length ≤ 1000000000) :
    Calls Tryz.prog 109 #[.string (ba (34 :: r))] w (FrontPost w (34 :: r)) := by
  have HEND := Lib.hid (fun W => rend_34 r W hl)
  have HFO := Lib.hid (front_opened (r := r) (show blankB 34 = false by decide) (show opens 34 = some (2, 34) by decide))
  have HLE := Lib.hid (endV_le (z := 34) (c := 34) (r := r))
  have hblk := rblank_any 34
  rw [show blankB 34 = false by decide] at hblk
  obtain ⟨l, hll⟩ : ∃ l, (34 :: r : List UInt8) = l := ⟨_, rfl⟩
  have h0 : ∀ h : 0 < l.length, l[0] = 34 := fun h => by subst hll; rfl
  have hne : 0 < l.length := by rw [← hll]; simp
  have HNR := Lib.hid (show l.length = r.length + 1 by rw [← hll]; simp)
  have H00 := Lib.hid (h0 hne)
  rw [hll] at hl HEND HFO HLE ⊢
  clear h0 hll
  obtain ⟨n, hn⟩ : ∃ n, l.length = n := ⟨_, rfl⟩
  have HL := Lib.hid hn
  obtain ⟨s, hs⟩ : ∃ s, ba l = s := ⟨_, rfl⟩
  have HS := Lib.hid hs
  have HZ := Lib.hid (show s.size = n by rw [← hs, ba_size, hn])
  have hsz : (s.size : Int) = n := by rw [HZ.out]
  rw [hs]
  rw [hn] at hl
  clear hs hn
  rw [HS.out] at HEND
  have hp0n : 0 < n := by rw [← HL.out]; exact hne
  have hp0 : 0 < s.size := by rw [HZ.out]; exact hp0n
  have hg0 : ∀ h : 0 < s.size, ((s[0]).toNat : Int) = 34 := fun h => by
    have h2 := HS.out
    subst h2
    show ((l[0]'hne).toNat : Int) = 34
    rw [H00.out]
    rfl
  have HBK := Lib.hid hblk
  clear hblk H00 hne
  obtain ⟨v, hv⟩ : ∃ v, endV 34 l = v := ⟨_, rfl⟩
  rw [hv] at HFO HLE
  simp only [hv] at HEND
  clear hv
  have hvn : v ≤ n := by have := HLE.out; have := HNR.out; have := HL.out; omega
  have hvi : (v : Int) ≤ (s.size : Int) := by omega
  have hv0 : (0 : Int) ≤ (v : Int) := by omega
  by_cases ev : v = 0
  · have gv : ((v : Int) == 0) = true := by simp; omega
    have HFV := Lib.hid (show frontP l = (7, n) by rw [HFO.out, if_pos ev, ← HNR.out, HL.out])
    have HEX := Lib.hid (show s = s.extract 0 n by rw [← HZ.out]; simp)
    clear ev
    go_enter Tryz.func109, Tryz.ntmps109
    go_wp2
    go_loop [3] (fun i => i = .int .i64 ((0 : Nat) : Int)) (fun _ => 0)
    case atStart => rfl
    case round =>
      subst hrel
      have hp0i : ((0 : Nat) : Int) < (n : Int) := by omega
      go_wp2_with fail
      refine (HBK.out _).mono ?_
      rintro e w' ⟨rfl, rfl⟩
  
      clear HBK
      go_wp2_with fail
      refine (HEND.out _).mono ?_
      rintro e w' ⟨rfl, rfl⟩
      go_wp2
      go_returns
      exact front_fin HS.out HEX.out HFV.out ((Below.refl _ _).alloc (Nat.le_refl _) _)
  · have gv : ((v : Int) == 0) = false := by simp; omega
    have HFV := Lib.hid (show frontP l = (2, v) by rw [HFO.out, if_neg ev])
    clear ev
    go_enter Tryz.func109, Tryz.ntmps109
    go_wp2
    go_loop [3] (fun i => i = .int .i64 ((0 : Nat) : Int)) (fun _ => 0)
    case atStart => rfl
    case round =>
      subst hrel
      have hp0i : ((0 : Nat) : Int) < (n : Int) := by omega
      go_wp2_with fail
      refine (HBK.out _).mono ?_
      rintro e w' ⟨rfl, rfl⟩
  
      clear HBK
      go_wp2_with fail
      refine (HEND.out _).mono ?_
      rintro e w' ⟨rfl, rfl⟩
      go_wp2
      go_returns
      exact front_fin HS.out rfl HFV.out ((Below.refl _ _).alloc (Nat.le_refl _) _)
set_option maxRecDepth 100000 in
set_option maxHeartbeats 4000000 in
theorem rfront_91 (r : List UInt8) (w : World) (hl : (91 :: r : List UInt8).length ≤ 1000000000) :
    Calls Tryz.prog 109 #[.string (ba (91 :: r))] w (FrontPost w (91 :: r)) := by
  have HEND := Lib.hid (fun W => rend_91 r W hl)
  have HFO := Lib.hid (front_opened (r := r) (show blankB 91 = false by decide) (show opens 91 = some (5, 93) by decide))
  have HLE := Lib.hid (endV_le (z := 93) (c := 91) (r := r))
  have hblk := rblank_any 91
  rw [show blankB 91 = false by decide] at hblk
  obtain ⟨l, hll⟩ : ∃ l, (91 :: r : List UInt8) = l := ⟨_, rfl⟩
  have h0 : ∀ h : 0 < l.length, l[0] = 91 := fun h => by subst hll; rfl
  have hne : 0 < l.length := by rw [← hll]; simp
  have HNR := Lib.hid (show l.length = r.length + 1 by rw [← hll]; simp)
  have H00 := Lib.hid (h0 hne)
  rw [hll] at hl HEND HFO HLE ⊢
  clear h0 hll
  obtain ⟨n, hn⟩ : ∃ n, l.length = n := ⟨_, rfl⟩
  have HL := Lib.hid hn
  obtain ⟨s, hs⟩ : ∃ s, ba l = s := ⟨_, rfl⟩
  have HS := Lib.hid hs
  have HZ := Lib.hid (show s.size = n by rw [← hs, ba_size, hn])
  have hsz : (s.size : Int) = n := by rw [HZ.out]
  rw [hs]
  rw [hn] at hl
  clear hs hn
  rw [HS.out] at HEND
  have hp0n : 0 < n := by rw [← HL.out]; exact hne
  have hp0 : 0 < s.size := by rw [HZ.out]; exact hp0n
  have hg0 : ∀ h : 0 < s.size, ((s[0]).toNat : Int) = 91 := fun h => by
    have h2 := HS.out
    subst h2
    show ((l[0]'hne).toNat : Int) = 91
    rw [H00.out]
    rfl
  have HBK := Lib.hid hblk
  clear hblk H00 hne
  obtain ⟨v, hv⟩ : ∃ v, endV 93 l = v := ⟨_, rfl⟩
  rw [hv] at HFO HLE
  simp only [hv] at HEND
  clear hv
  have hvn : v ≤ n := by have := HLE.out; have := HNR.out; have := HL.out; omega
  have hvi : (v : Int) ≤ (s.size : Int) := by omega
  have hv0 : (0 : Int) ≤ (v : Int) := by omega
  by_cases ev : v = 0
  · have gv : ((v : Int) == 0) = true := by simp; omega
    have HFV := Lib.hid (show frontP l = (7, n) by rw [HFO.out, if_pos ev, ← HNR.out, HL.out])
    have HEX := Lib.hid (show s = s.extract 0 n by rw [← HZ.out]; simp)
    clear ev
    go_enter Tryz.func109, Tryz.ntmps109
    go_wp2
    go_loop [3] (fun i => i = .int .i64 ((0 : Nat) : Int)) (fun _ => 0)
    case atStart => rfl
    case round =>
      subst hrel
      have hp0i : ((0 : Nat) : Int) < (n : Int) := by omega
      go_wp2_with fail
      refine (HBK.out _).mono ?_
      rintro e w' ⟨rfl, rfl⟩
  
      clear HBK
      go_wp2_with fail
      refine (HEND.out _).mono ?_
      rintro e w' ⟨rfl, rfl⟩
      go_wp2
      go_returns
      exact front_fin HS.out HEX.out HFV.out ((Below.refl _ _).alloc (Nat.le_refl _) _)
  · have gv : ((v : Int) == 0) = false := by simp; omega
    have HFV := Lib.hid (show frontP l = (5, v) by rw [HFO.out, if_neg ev])
    clear ev
    go_enter Tryz.func109, Tryz.ntmps109
    go_wp2
    go_loop [3] (fun i => i = .int .i64 ((0 : Nat) : Int)) (fun _ => 0)
    case atStart => rfl
    case round =>
      subst hrel
      have hp0i : ((0 : Nat) : Int) < (n : Int) := by omega
      go_wp2_with fail
      refine (HBK.out _).mono ?_
      rintro e w' ⟨rfl, rfl⟩
  
      clear HBK
      go_wp2_with fail
      refine (HEND.out _).mono ?_
      rintro e w' ⟨rfl, rfl⟩
      go_wp2
      go_returns
      exact front_fin HS.out rfl HFV.out ((Below.refl _ _).alloc (Nat.le_refl _) _)
set_option maxRecDepth 100000 in
set_option maxHeartbeats 4000000 in
theorem rfront_special (c : UInt8) (r : List UInt8) (w : World) (hl : (c :: r).length ≤ 1000000000) (hc : blankB c = false) (ho : opens c = none) (hsp : specials.contains c = true) :
    Calls Tryz.prog 109 #[.string (ba (c :: r))] w (FrontPost w (c :: r)) := by
  have hno : ¬ c = 40 ∧ ¬ c = 34 ∧ ¬ c = 91 := by
    unfold opens at ho
    refine ⟨fun h => ?_, fun h => ?_, fun h => ?_⟩ <;> subst h <;> simp at ho
  have HNO := Lib.hid hno
  have hspc := rspecial_any c
  rw [hsp] at hspc
  have HFV0 := Lib.hid (show frontP (c :: r) = (4, 1) by rw [frontP_cons, if_neg (by rw [hc]; decide), ho]; rw [hsp]; rfl)
  clear ho hno
  have HSPC := Lib.hid hsp
  clear hsp
  have HBC := Lib.hid hc
  obtain ⟨l, hll⟩ : ∃ l, (c :: r : List UInt8) = l := ⟨_, rfl⟩
  have h0 : ∀ h : 0 < l.length, l[0] = c := fun h => by subst hll; rfl
  have hne : 0 < l.length := by rw [← hll]; simp
  have hnr : l.length = r.length + 1 := by rw [← hll]; simp
  have HNR := Lib.hid hnr
  have HLL := Lib.hid hll
  have H00 := Lib.hid (h0 hne)
  clear h0 hnr
  clear hc
  have HLLX := Lib.hid hll
  rw [hll] at hl ⊢
  clear hll
  obtain ⟨n, hn⟩ : ∃ n, l.length = n := ⟨_, rfl⟩
  have HL := Lib.hid hn
  obtain ⟨s, hs⟩ : ∃ s, ba l = s := ⟨_, rfl⟩
  have HS := Lib.hid hs
  have HZ := Lib.hid (show s.size = n by rw [← hs, ba_size, hn])
  have hsz : (s.size : Int) = n := by rw [HZ.out]
  rw [hs]
  rw [hn] at hl
  clear hs hn
  have hp0n : 0 < n := by rw [← HL.out]; exact hne
  have hp0 : 0 < s.size := by rw [HZ.out]; exact hp0n
  have hblk := rblank_any c
  rw [HBC.out] at hblk
  obtain ⟨x, hx⟩ : ∃ x : Int, (c.toNat : Int) = x := ⟨_, rfl⟩
  have HX := Lib.hid hx
  have hg0 : ∀ h : 0 < s.size, ((s[0]).toNat : Int) = x := fun h => by
    have h2 := HS.out
    subst h2
    show ((l[0]'hne).toNat : Int) = x
    rw [H00.out]
    exact hx
  rw [hx] at hblk
  have HBK := Lib.hid hblk
  clear hx hblk H00 hne
  rw [HX.out] at hspc
  have HSP := Lib.hid hspc
  clear hspc
  have g40 : (x == 40) = false := by
    have h1 : ¬ x = 40 := fun h => HNO.out.1 (u8_int_eq.1 (by rw [HX.out]; exact h))
    simpa using h1
  have g34 : (x == 34) = false := by
    have h1 : ¬ x = 34 := fun h => HNO.out.2.1 (u8_int_eq.1 (by rw [HX.out]; exact h))
    simpa using h1
  have g91 : (x == 91) = false := by
    have h1 : ¬ x = 91 := fun h => HNO.out.2.2 (u8_int_eq.1 (by rw [HX.out]; exact h))
    simpa using h1
  rw [HLLX.out] at HFV0
  go_enter Tryz.func109, Tryz.ntmps109
  go_wp2
  go_loop [3] (fun i => i = .int .i64 ((0 : Nat) : Int)) (fun _ => 0)
  case atStart => rfl
  case round =>
    subst hrel
    have hp0i : ((0 : Nat) : Int) < (n : Int) := by omega
    go_wp2_with fail
    refine (HBK.out _).mono ?_
    rintro e w' ⟨rfl, rfl⟩
    clear HBK
    go_wp2_with fail
    refine (HSP.out _).mono ?_
    rintro e w' ⟨rfl, rfl⟩
    have hs1 : (1 : Int) ≤ (s.size : Int) := by omega
    go_wp2
    go_returns
    exact front_fin HS.out rfl HFV0.out ((Below.refl _ _).alloc (Nat.le_refl _) _)
set_option maxRecDepth 100000 in
set_option maxHeartbeats 4000000 in
theorem rfront_bad (c : UInt8) (r : List UInt8) (w : World) (hl : (c :: r).length ≤ 1000000000) (hc : blankB c = false) (ho : opens c = none) (hsp : specials.contains c = false) (hat : atomB c = false) :
    Calls Tryz.prog 109 #[.string (ba (c :: r))] w (FrontPost w (c :: r)) := by
  have hno : ¬ c = 40 ∧ ¬ c = 34 ∧ ¬ c = 91 := by
    unfold opens at ho
    refine ⟨fun h => ?_, fun h => ?_, fun h => ?_⟩ <;> subst h <;> simp at ho
  have HNO := Lib.hid hno
  have hspc := rspecial_any c
  rw [hsp] at hspc
  have HFV0 := Lib.hid (show frontP (c :: r) = (7, 1) by rw [frontP_cons, if_neg (by rw [hc]; decide), ho]; rw [hsp, hat]; rfl)
  clear ho hno
  have HSPC := Lib.hid hsp
  clear hsp
  have hatc := ratom_any c
  rw [hat] at hatc
  clear hat
  have HBC := Lib.hid hc
  obtain ⟨l, hll⟩ : ∃ l, (c :: r : List UInt8) = l := ⟨_, rfl⟩
  have h0 : ∀ h : 0 < l.length, l[0] = c := fun h => by subst hll; rfl
  have hne : 0 < l.length := by rw [← hll]; simp
  have hnr : l.length = r.length + 1 := by rw [← hll]; simp
  have HNR := Lib.hid hnr
  have HLL := Lib.hid hll
  have H00 := Lib.hid (h0 hne)
  clear h0 hnr
  clear hc
  have HLLX := Lib.hid hll
  rw [hll] at hl ⊢
  clear hll
  obtain ⟨n, hn⟩ : ∃ n, l.length = n := ⟨_, rfl⟩
  have HL := Lib.hid hn
  obtain ⟨s, hs⟩ : ∃ s, ba l = s := ⟨_, rfl⟩
  have HS := Lib.hid hs
  have HZ := Lib.hid (show s.size = n by rw [← hs, ba_size, hn])
  have hsz : (s.size : Int) = n := by rw [HZ.out]
  rw [hs]
  rw [hn] at hl
  clear hs hn
  have hp0n : 0 < n := by rw [← HL.out]; exact hne
  have hp0 : 0 < s.size := by rw [HZ.out]; exact hp0n
  have hblk := rblank_any c
  rw [HBC.out] at hblk
  obtain ⟨x, hx⟩ : ∃ x : Int, (c.toNat : Int) = x := ⟨_, rfl⟩
  have HX := Lib.hid hx
  have hg0 : ∀ h : 0 < s.size, ((s[0]).toNat : Int) = x := fun h => by
    have h2 := HS.out
    subst h2
    show ((l[0]'hne).toNat : Int) = x
    rw [H00.out]
    exact hx
  rw [hx] at hblk
  have HBK := Lib.hid hblk
  clear hx hblk H00 hne
  rw [HX.out] at hspc
  have HSP := Lib.hid hspc
  clear hspc
  have g40 : (x == 40) = false := by
    have h1 : ¬ x = 40 := fun h => HNO.out.1 (u8_int_eq.1 (by rw [HX.out]; exact h))
    simpa using h1
  have g34 : (x == 34) = false := by
    have h1 : ¬ x = 34 := fun h => HNO.out.2.1 (u8_int_eq.1 (by rw [HX.out]; exact h))
    simpa using h1
  have g91 : (x == 91) = false := by
    have h1 : ¬ x = 91 := fun h => HNO.out.2.2 (u8_int_eq.1 (by rw [HX.out]; exact h))
    simpa using h1
  rw [HLLX.out] at HFV0
  rw [HX.out] at hatc
  have HATC := Lib.hid hatc
  clear hatc
  go_enter Tryz.func109, Tryz.ntmps109
  go_wp2
  go_loop [3] (fun i => i = .int .i64 ((0 : Nat) : Int)) (fun _ => 0)
  case atStart => rfl
  case round =>
    subst hrel
    have hp0i : ((0 : Nat) : Int) < (n : Int) := by omega
    go_wp2_with fail
    refine (HBK.out _).mono ?_
    rintro e w' ⟨rfl, rfl⟩
    clear HBK
    go_wp2_with fail
    refine (HSP.out _).mono ?_
    rintro e w' ⟨rfl, rfl⟩
    have hs1 : (1 : Int) ≤ (s.size : Int) := by omega
    go_wp2
    go_loop [3] (fun i => i = .int .i64 ((0 : Nat) : Int)) (fun _ => 0)
    case atStart => rfl
    case round =>
      subst hrel
      go_wp2_with fail
      refine (HATC.out _).mono ?_
      rintro e w' ⟨rfl, rfl⟩
      go_wp2
      go_returns
      exact front_fin HS.out rfl HFV0.out ((Below.refl _ _).alloc (Nat.le_refl _) _)
set_option maxRecDepth 100000 in
set_option maxHeartbeats 4000000 in
theorem rfront_atom (c : UInt8) (r : List UInt8) (w : World) (hl : (c :: r).length ≤ 1000000000) (hc : blankB c = false) (ho : opens c = none) (hsp : specials.contains c = false) (hat : atomB c = true) :
    Calls Tryz.prog 109 #[.string (ba (c :: r))] w (FrontPost w (c :: r)) := by
  have hno : ¬ c = 40 ∧ ¬ c = 34 ∧ ¬ c = 91 := by
    unfold opens at ho
    refine ⟨fun h => ?_, fun h => ?_, fun h => ?_⟩ <;> subst h <;> simp at ho
  have HNO := Lib.hid hno
  have hspc := rspecial_any c
  rw [hsp] at hspc
  have HFV0 := Lib.hid (show frontP (c :: r) = (1, ((c :: r).takeWhile atomB).length) by rw [frontP_cons, if_neg (by rw [hc]; decide), ho]; rw [hsp, hat]; rfl)
  clear ho hno
  have HSPC := Lib.hid hsp
  clear hsp
  have HATT := Lib.hid hat
  clear hat
  have HBC := Lib.hid hc
  obtain ⟨l, hll⟩ : ∃ l, (c :: r : List UInt8) = l := ⟨_, rfl⟩
  have h0 : ∀ h : 0 < l.length, l[0] = c := fun h => by subst hll; rfl
  have hne : 0 < l.length := by rw [← hll]; simp
  have hnr : l.length = r.length + 1 := by rw [← hll]; simp
  have HNR := Lib.hid hnr
  have HLL := Lib.hid hll
  have H00 := Lib.hid (h0 hne)
  clear h0 hnr
  clear hc
  have HLLX := Lib.hid hll
  rw [hll] at hl ⊢
  clear hll
  obtain ⟨n, hn⟩ : ∃ n, l.length = n := ⟨_, rfl⟩
  have HL := Lib.hid hn
  obtain ⟨s, hs⟩ : ∃ s, ba l = s := ⟨_, rfl⟩
  have HS := Lib.hid hs
  have HZ := Lib.hid (show s.size = n by rw [← hs, ba_size, hn])
  have hsz : (s.size : Int) = n := by rw [HZ.out]
  rw [hs]
  rw [hn] at hl
  clear hs hn
  have hp0n : 0 < n := by rw [← HL.out]; exact hne
  have hp0 : 0 < s.size := by rw [HZ.out]; exact hp0n
  have hblk := rblank_any c
  rw [HBC.out] at hblk
  obtain ⟨x, hx⟩ : ∃ x : Int, (c.toNat : Int) = x := ⟨_, rfl⟩
  have HX := Lib.hid hx
  have hg0 : ∀ h : 0 < s.size, ((s[0]).toNat : Int) = x := fun h => by
    have h2 := HS.out
    subst h2
    show ((l[0]'hne).toNat : Int) = x
    rw [H00.out]
    exact hx
  rw [hx] at hblk
  have HBK := Lib.hid hblk
  clear hx hblk
  rw [HX.out] at hspc
  have HSP := Lib.hid hspc
  clear hspc
  have g40 : (x == 40) = false := by
    have h1 : ¬ x = 40 := fun h => HNO.out.1 (u8_int_eq.1 (by rw [HX.out]; exact h))
    simpa using h1
  have g34 : (x == 34) = false := by
    have h1 : ¬ x = 34 := fun h => HNO.out.2.1 (u8_int_eq.1 (by rw [HX.out]; exact h))
    simpa using h1
  have g91 : (x == 91) = false := by
    have h1 : ¬ x = 91 := fun h => HNO.out.2.2 (u8_int_eq.1 (by rw [HX.out]; exact h))
    simpa using h1
  rw [HLLX.out] at HFV0
  have HFV := Lib.hid (show ∀ m, (l.takeWhile atomB).length = m → frontP l = (1, m) from fun m hm => by rw [HFV0.out, hm])
  have hpos : 0 < n := hp0n
  go_enter Tryz.func109, Tryz.ntmps109
  go_wp2
  go_loop [3] (fun i => i = .int .i64 ((0 : Nat) : Int)) (fun _ => 0)
  case atStart => rfl
  case round =>
    subst hrel
    have hp0i : ((0 : Nat) : Int) < (n : Int) := by omega
    go_wp2_with fail
    refine (HBK.out _).mono ?_
    rintro e w' ⟨rfl, rfl⟩
    clear HBK
    go_wp2_with fail
    refine (HSP.out _).mono ?_
    rintro e w' ⟨rfl, rfl⟩
    clear HX hg0
    go_wp2
    go_loop [3] (fun i => ∃ k : Nat, k ≤ n ∧ i = .int .i64 (k : Int) ∧ Hid (∀ j (hj : j < l.length), j < k → atomB l[j] = true)) (fun i => n - (intOf i).toNat)
    case atStart => exact ⟨0, Nat.zero_le _, rfl, Lib.hid fun j _ h => absurd h (by omega)⟩
    case round =>
      obtain ⟨k, hk, rfl, HA⟩ := hrel
      by_cases hlt : k < n
      · have hk2 : (k : Int) < (n : Int) := by omega
        have hk0 : (0 : Int) ≤ (k : Int) := by omega
        have hks : k < s.size := by rw [HZ.out]; omega
        have hkl : k < l.length := by rw [HL.out]; omega
        have hget : s[k] = l[k] := by
          have h := HS.out
          subst h
          rfl
        have HST := Lib.hid (tw_stop (p := atomB) hkl HA.out)
        have HNX := Lib.hid (show atomB l[k] = true → ∀ j (hj : j < l.length), j < k + 1 → atomB l[j] = true from fun h j hj hjk => by
          rcases Nat.lt_or_ge j k with h1 | h1
          · exact HA.out j hj h1
          · have : j = k := by omega
            subst this; exact h)
        have HZ0 := Lib.hid (show k = 0 → l[k] = c from fun h => by subst h; exact H00.out)
        obtain ⟨d, hc⟩ : ∃ c, l[k] = c := ⟨_, rfl⟩
        rw [hc] at hget HST HNX HZ0
        obtain ⟨x, hx⟩ : ∃ x : Int, (d.toNat : Int) = x := ⟨_, rfl⟩
        have hgi : ((s[k]).toNat : Int) = x := by rw [hget]; exact hx
        have HX := Lib.hid hx
        have hx0 : 0 ≤ x := by omega
        have hx1 : x ≤ 255 := by have := d.toNat_lt; omega
        clear hc hkl hget hx
        have hblk := ratom_any d
        rw [HX.out] at hblk
        obtain ⟨b, hb⟩ : ∃ b, atomB d = b := ⟨_, rfl⟩
        rw [hb] at hblk HST HNX
        have HBK := Lib.hid hblk
        have HBB := Lib.hid hb
        clear hblk hb
        cases b
        · have HF := Lib.hid (HST.out rfl)
          have hkp : 0 < k := by
            rcases Nat.eq_zero_or_pos k with h | h
            · have h1 := HBB.out
              rw [HZ0.out h, HATT.out] at h1
              cases h1
            · exact h
          have hkp2 : decide (0 < (k : Int)) = true := decide_eq_true (by omega)
          go_wp2_with fail
          refine (HBK.out _).mono ?_
          rintro e w' ⟨rfl, rfl⟩
          go_wp2
          go_returns
          exact front_fin HS.out rfl (HFV.out _ HF.out) ((Below.refl _ _).alloc (Nat.le_refl _) _)
        · have HXX := Lib.hid (HNX.out rfl)
          go_wp2_with fail
          refine (HBK.out _).mono ?_
          rintro e w' ⟨rfl, rfl⟩
          go_wp2
          go_round
          case rel => exact ⟨k + 1, by omega, by go_num, HXX⟩
          case measure => simp [intOf] <;> omega
      · obtain rfl : k = n := by omega
        have HF := Lib.hid (show (l.takeWhile atomB).length = k by rw [tw_all fun j hj => HA.out j hj (by rw [HL.out] at hj; exact hj), HL.out])
        have hkp : 0 < k := hpos
        have hkp2 : decide (0 < (k : Int)) = true := decide_eq_true (by omega)
        clear hpos
        go_wp2
        go_returns
        exact front_fin HS.out rfl (HFV.out _ HF.out) ((Below.refl _ _).alloc (Nat.le_refl _) _)
theorem rfront_any (c : UInt8) (r : List UInt8) (w : World) (hl : (c :: r).length ≤ 1000000000) :
    Calls Tryz.prog 109 #[.string (ba (c :: r))] w (FrontPost w (c :: r)) := by
  cases hc : blankB c with
  | true => exact rfront_blank c r w hl hc
  | false =>
    by_cases h1 : c = 40
    · subst h1; exact rfront_40 r w hl
    by_cases h2 : c = 34
    · subst h2; exact rfront_34 r w hl
    by_cases h3 : c = 91
    · subst h3; exact rfront_91 r w hl
    have ho : opens c = none := by unfold opens; rw [if_neg h1, if_neg h2, if_neg h3]
    cases hsp : specials.contains c with
    | true => exact rfront_special c r w hl hc ho hsp
    | false =>
      cases hat : atomB c with
      | true => exact rfront_atom c r w hl hc ho hsp hat
      | false => exact rfront_bad c r w hl hc ho hsp hat
end Go.Proofs.YtnpgnohlcphfnaaGreatDoor
end
