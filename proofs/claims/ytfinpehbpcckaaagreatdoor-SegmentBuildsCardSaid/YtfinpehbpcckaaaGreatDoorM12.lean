/- Layer 5, plain: the length of a unit, as the reference finds it. Layer 5: the reference's length. Layer 5: the reference's Units. Layer 5, plain: folding by units, as the reference does it. Layer 32: the reference's class of a rune (printed by gen_rkind.py). Layer 32: a row of words under way (texts and ranges), one cell of it set; the class of a unit by the reference. -/
import Derived.Test.YtfinpehbpcckaaaGreatDoorM11
import Derived.Test.YtfinpehbpcckaaaGreatDoorM08
import Derived.Test.YtfinpehbpcckaaaGreatDoorM10
section
namespace Go.Proofs.YtfinpehbpcckaaaGreatDoor
set_option linter.unusedVariables false

/-- What a unit's first byte tells: its length, and the least rune of that length. -/
def cls (b : Nat) : Nat × Nat := if 194 ≤ b ∧ b ≤ 223 then (2, 128) else if 224 ≤ b ∧ b ≤ 239 then (3, 2048) else if 240 ≤ b ∧ b ≤ 244 then (4, 65536) else (1, 0)
theorem cls_cases (b : Nat) : (194 ≤ b ∧ b ≤ 223 ∧ cls b = (2, 128)) ∨ (224 ≤ b ∧ b ≤ 239 ∧ cls b = (3, 2048)) ∨ (240 ≤ b ∧ b ≤ 244 ∧ cls b = (4, 65536)) ∨ ((b < 194 ∨ 244 < b) ∧ cls b = (1, 0)) := by
  unfold cls
  by_cases h1 : 194 ≤ b ∧ b ≤ 223
  · exact .inl ⟨h1.1, h1.2, if_pos h1⟩
  · rw [if_neg h1]
    by_cases h2 : 224 ≤ b ∧ b ≤ 239
    · exact .inr (.inl ⟨h2.1, h2.2, if_pos h2⟩)
    · rw [if_neg h2]
      by_cases h3 : 240 ≤ b ∧ b ≤ 244
      · exact .inr (.inr (.inl ⟨h3.1, h3.2, if_pos h3⟩))
      · exact .inr (.inr (.inr ⟨by omega, if_neg h3⟩))
set_option maxHeartbeats 2000000 in
theorem len_one {m : List UInt8} (h0 : m ≠ []) (h : (cls (bt m 0)).1 = 1 ∨ m.length < (cls (bt m 0)).1) : (uN m).2 = 1 := by
  have hl : 1 ≤ m.length := List.length_pos_iff.2 h0
  have h1 := cls_cases (bt m 0)
  have h2 := uN_cases m h0
  generalize (uN m).1 = r at *
  generalize (uN m).2 = n at *
  generalize m.length = k at *
  have b1 := bt_lt m 1
  have b2 := bt_lt m 2
  have b3 := bt_lt m 3
  generalize bt m 0 = x0 at *
  generalize bt m 1 = x1 at *
  generalize bt m 2 = x2 at *
  generalize bt m 3 = x3 at *
  clear h0
  rcases h1 with ⟨p, q, e⟩ | ⟨p, q, e⟩ | ⟨p, q, e⟩ | ⟨p, e⟩ <;> rw [e] at h <;> dsimp only at h <;> clear e <;>
    rcases h2 with ⟨hn, h3⟩ | ⟨hn, h3⟩ | ⟨hn, h3⟩ | ⟨hn, h3⟩ <;> omega
set_option maxHeartbeats 2000000 in
theorem len_cont {m : List UInt8} (h0 : m ≠ []) {k : Nat} (hk : 1 ≤ k) (hk2 : k < (cls (bt m 0)).1) (h : bt m k < 128 ∨ 191 < bt m k) : (uN m).2 = 1 := by
  have hl : 1 ≤ m.length := List.length_pos_iff.2 h0
  have h1 := cls_cases (bt m 0)
  have h2 := uN_cases m h0
  have h4 : k = 1 ∨ k = 2 ∨ k = 3 := by
    rcases h1 with ⟨p, q, e⟩ | ⟨p, q, e⟩ | ⟨p, q, e⟩ | ⟨p, e⟩ <;> rw [e] at hk2 <;> dsimp only at hk2 <;> omega
  have b1 := bt_lt m 1
  have b2 := bt_lt m 2
  have b3 := bt_lt m 3
  rcases h4 with rfl | rfl | rfl
  all_goals
    generalize (uN m).1 = r at *
    generalize (uN m).2 = n at *
    generalize m.length = j at *
    generalize bt m 0 = x0 at *
    generalize bt m 1 = x1 at *
    generalize bt m 2 = x2 at *
    generalize bt m 3 = x3 at *
    clear h0
    rcases h1 with ⟨p, q, e⟩ | ⟨p, q, e⟩ | ⟨p, q, e⟩ | ⟨p, e⟩ <;> rw [e] at hk2 <;> dsimp only at hk2 <;> clear e <;>
      rcases h2 with ⟨hn, h3⟩ | ⟨hn, h3⟩ | ⟨hn, h3⟩ | ⟨hn, h3⟩ <;> omega
theorem bt_take {m : List UInt8} {n k : Nat} (h : k < n) : bt (m.take n) k = bt m k := by
  unfold bt
  rw [List.getD_eq_getElem?_getD, List.getD_eq_getElem?_getD, List.getElem?_take_of_lt h]
theorem bt_drop (l : List UInt8) (a k : Nat) : bt (l.drop a) k = bt l (a + k) := by
  unfold bt
  rw [List.getD_eq_getElem?_getD, List.getD_eq_getElem?_getD, List.getElem?_drop]
/-- The last test. -/
def odd (low r : Nat) : Prop := r < low ∨ 1114111 < r ∨ (55296 ≤ r ∧ r ≤ 57343)
set_option maxHeartbeats 4000000 in
theorem len_rune {m : List UInt8} {n low : Nat} (hc : cls (bt m 0) = (n, low)) (hn : 1 < n) (hl : n ≤ m.length) (h : ∀ k, 1 ≤ k → k < n → 128 ≤ bt m k ∧ bt m k ≤ 191) :
    (odd low (rv (m.take n)) → (uN m).2 = 1) ∧ (¬ odd low (rv (m.take n)) → uN m = (rv (m.take n), n)) := by
  have h1 := cls_cases (bt m 0)
  have htl : (m.take n).length = n := by rw [List.length_take]; omega
  have hrv : rv (m.take n) = rvF (m.take n) (n - 1) := by unfold rv; rw [htl, if_neg (by omega)]
  rw [hrv]
  have b0 := bt_lt m 0
  rcases h1 with ⟨p, q, e⟩ | ⟨p, q, e⟩ | ⟨p, q, e⟩ | ⟨p, e⟩
  · rw [hc] at e
    injection e with e1 e2
    subst e1; subst e2
    have k1 := h 1 (by omega) (by omega)
    have hv : rvF (m.take 2) (2 - 1) = bt m 0 % 32 * 64 + bt m 1 % 64 := by
      show bt (m.take 2) 0 % mo (m.take 2).length * 64 + bt (m.take 2) 1 % 64 = _
      rw [htl, bt_take (by omega), bt_take (by omega)]; rfl
    rw [hv]
    unfold odd uN Lib.decodeN
    clear hv hrv htl h hc
    generalize m.length = j at *
    generalize bt m 0 = x0 at *
    generalize bt m 1 = x1 at *
    generalize bt m 2 = x2 at *
    generalize bt m 3 = x3 at *
    rw [if_neg (by omega), if_pos (by omega)]
    split
    · exact ⟨fun h => by omega, fun _ => rfl⟩
    · exact ⟨fun _ => rfl, fun h => by omega⟩
  · rw [hc] at e
    injection e with e1 e2
    subst e1; subst e2
    have k1 := h 1 (by omega) (by omega)
    have k2 := h 2 (by omega) (by omega)
    have hv : rvF (m.take 3) (3 - 1) = bt m 0 % 16 * 4096 + bt m 1 % 64 * 64 + bt m 2 % 64 := by
      show (bt (m.take 3) 0 % mo (m.take 3).length * 64 + bt (m.take 3) 1 % 64) * 64 + bt (m.take 3) 2 % 64 = _
      rw [htl, bt_take (by omega), bt_take (by omega), bt_take (by omega)]
      show (bt m 0 % 16 * 64 + bt m 1 % 64) * 64 + bt m 2 % 64 = _
      omega
    rw [hv]
    unfold odd uN Lib.decodeN
    clear hv hrv htl h hc
    generalize m.length = j at *
    generalize bt m 0 = x0 at *
    generalize bt m 1 = x1 at *
    generalize bt m 2 = x2 at *
    generalize bt m 3 = x3 at *
    rw [if_neg (by omega), if_neg (by omega), if_pos (by omega)]
    split
    · exact ⟨fun h => by omega, fun _ => rfl⟩
    · exact ⟨fun _ => rfl, fun h => by omega⟩
  · rw [hc] at e
    injection e with e1 e2
    subst e1; subst e2
    have k1 := h 1 (by omega) (by omega)
    have k2 := h 2 (by omega) (by omega)
    have k3 := h 3 (by omega) (by omega)
    have hv : rvF (m.take 4) (4 - 1) = bt m 0 % 8 * 262144 + bt m 1 % 64 * 4096 + bt m 2 % 64 * 64 + bt m 3 % 64 := by
      show ((bt (m.take 4) 0 % mo (m.take 4).length * 64 + bt (m.take 4) 1 % 64) * 64 + bt (m.take 4) 2 % 64) * 64 + bt (m.take 4) 3 % 64 = _
      rw [htl, bt_take (by omega), bt_take (by omega), bt_take (by omega), bt_take (by omega)]
      show ((bt m 0 % 8 * 64 + bt m 1 % 64) * 64 + bt m 2 % 64) * 64 + bt m 3 % 64 = _
      omega
    rw [hv]
    unfold odd uN Lib.decodeN
    clear hv hrv htl h hc
    generalize m.length = j at *
    generalize bt m 0 = x0 at *
    generalize bt m 1 = x1 at *
    generalize bt m 2 = x2 at *
    generalize bt m 3 = x3 at *
    rw [if_neg (by omega), if_neg (by omega), if_neg (by omega), if_pos (by omega)]
    split
    · exact ⟨fun h => by omega, fun _ => rfl⟩
    · exact ⟨fun _ => rfl, fun h => by omega⟩
  · rw [hc] at e
    injection e with e1 e2
    omega
end Go.Proofs.YtfinpehbpcckaaaGreatDoor
end
section
namespace Go.Proofs.YtfinpehbpcckaaaGreatDoor
open Go.RowKit
set_option linter.unusedVariables false

theorem byte_at (l : List UInt8) (k : Nat) (hk : k < (ba l).size) : ((ba l)[k]'hk).toNat = bt l k := by
  have hk2 : k < l.length := by rw [← ba_size]; exact hk
  unfold bt
  rw [ba_get]
  simp [hk2]
set_option maxRecDepth 100000 in
set_option maxHeartbeats 8000000 in
theorem rlen_any (l : List UInt8) (a : Nat) (w : World) (ha : a < l.length) (hl : l.length ≤ 1000000000) : Calls Tryz.prog 161 #[.string (ba l), .int .i64 (a : Int)] w fun e w' => e = .returned (.int .i64 ((uN (l.drop a)).2 : Int)) ∧ w' = w := by
  obtain ⟨m, hm⟩ : ∃ m, l.drop a = m := ⟨_, rfl⟩
  have hne : m ≠ [] := by rw [← hm]; intro e; have := congrArg List.length e; rw [List.length_drop] at this; simp at this; omega
  have hml : m.length = l.length - a := by rw [← hm, List.length_drop]
  have hbt : ∀ k, bt l (a + k) = bt m k := fun k => by rw [← hm, bt_drop]
  have H1 := Lib.hid (@len_one m hne)
  have H2 := Lib.hid (fun (k : Nat) => @len_cont m hne k)
  have H3 := Lib.hid (fun (n low : Nat) => @len_rune m n low)
  have HBT := Lib.hid hbt
  have hcut : ∀ n, (ba l).extract a (a + n) = ba (m.take n) := fun n => by rw [ba_cut, ← hm, List.take_drop]
  have HCUT := Lib.hid hcut
  rw [hm]
  clear hm hbt hcut hne
  obtain ⟨s, hse⟩ : ∃ s, ba l = s := ⟨_, rfl⟩
  have hsz : s.size = l.length := by rw [← hse, ba_size]
  have hget : ∀ k (hk : k < s.size), (s[k]'hk).toNat = bt l k := fun k hk => by subst hse; exact byte_at l k hk
  rw [hse] at HCUT
  rw [hse]
  have HG := Lib.hid hget
  rw [← hsz] at ha hl
  have HML := Lib.hid (show m.length = s.size - a by omega)
  clear hget hml hsz hse
  have ha2 : (a : Int) < (s.size : Int) := by omega
  have hu1 : (s[a].toNat : Int) ≤ 255 := by have := s[a].toNat_lt; omega
  have hu0 : (0 : Int) ≤ (s[a].toNat : Int) := by omega
  have hb0 : s[a].toNat = bt m 0 := (HG.out a ha).trans (HBT.out 0)
  have hcc := cls_cases (bt m 0)
  rw [← hb0] at hcc H1 H2 H3
  clear hb0
  rcases hcc with ⟨p, q, e⟩ | ⟨p, q, e⟩ | ⟨p, q, e⟩ | ⟨p, e⟩
  · have p2 : (194 : Int) ≤ (s[a].toNat : Int) := by omega
    have q2 : (s[a].toNat : Int) ≤ 223 := by omega
    have HE := Lib.hid e
    rw [e] at H1
    have HC2 := Lib.hid (fun (k : Nat) (h1 : 1 ≤ k) (h2 : k < 2) h => H2.out k h1 (by rw [e]; exact h2) h)
    have HC3 := Lib.hid (H3.out 2 128 e (by omega))
    clear p q e H2 H3
    by_cases hfit : a + 2 ≤ s.size
    · have hf2 : (a : Int) + 2 ≤ (s.size : Int) := by omega
      go_enter Tryz.func161, Tryz.ntmps161
      go_wp2
      go_loopw [8] (fun i wr => ∃ k : Nat, 1 ≤ k ∧ k ≤ 2 ∧ i = .int .i64 (k : Int) ∧ wr = w ∧ Hid (∀ j, 1 ≤ j → j < k → 128 ≤ bt m j ∧ bt m j ≤ 191)) (fun i _ => 2 - (intOf i).toNat)
      case atStart => exact ⟨1, Nat.le_refl _, by omega, rfl, rfl, Lib.hid (fun j h1 h2 => by omega)⟩
      case round =>
        obtain ⟨k, hk1, hk, rfl, rfl, HC⟩ := hrel
        by_cases hlt : k < 2
        · have hk2 : (k : Int) < 2 := by omega
          have hak : a + k < s.size := by omega
          have hak2 : (a : Int) + (k : Int) < (s.size : Int) := by omega
          have z1 : (0 : Int) ≤ (a : Int) + (k : Int) := by omega
          have t1 : ((a : Int) + (k : Int)).toNat = a + k := by omega
          have HV := Lib.hid ((HG.out (a + k) hak).trans (HBT.out k))
          by_cases hlow : s[a + k].toNat < 128
          · have HR := Lib.hid (HC2.out k hk1 hlt (.inl (by rw [← HV.out]; exact hlow)))
            have hl2 : (s[a + k].toNat : Int) < 128 := by omega
            go_wp2
            go_ret
            exact ⟨by rw [HR.out]; rfl, rfl⟩
          · have hl2 : ¬ (s[a + k].toNat : Int) < 128 := by omega
            by_cases hhi : 191 < s[a + k].toNat
            · have HR := Lib.hid (HC2.out k hk1 hlt (.inr (by rw [← HV.out]; exact hhi)))
              have hl3 : (191 : Int) < (s[a + k].toNat : Int) := by omega
              go_wp2
              go_ret
              exact ⟨by rw [HR.out]; rfl, rfl⟩
            · have hl3 : ¬ (191 : Int) < (s[a + k].toNat : Int) := by omega
              have HN := Lib.hid (show ∀ j, 1 ≤ j → j < k + 1 → 128 ≤ bt m j ∧ bt m j ≤ 191 from fun j h1 h2 => by
                by_cases hj : j < k
                · exact HC.out j h1 hj
                · obtain rfl : j = k := by omega
                  rw [← HV.out]; omega)
              go_wp2
              go_roundw
              case rel => exact ⟨k + 1, by omega, by omega, by go_num, by trivial, HN⟩
              case measure => simp [intOf] <;> omega
        · obtain rfl : k = 2 := by omega
          have HL3 := Lib.hid (HC3.out (by have := HML.out; omega) HC.out)
          have hcut := HCUT.out 2
          have HM := Lib.hid (show (m.take 2).length = 2 by rw [List.length_take]; have := HML.out; omega)
          go_wp2_with fail
          rw [hcut]
          refine (rrune_any (m.take 2) wr (by rw [HM.out]; omega) (by rw [HM.out]; omega)).mono ?_
          rintro e w1 ⟨rfl, rfl⟩
          obtain ⟨x, hx⟩ : ∃ x, rv (m.take 2) = x := ⟨_, rfl⟩
          rw [hx] at HL3
          rw [hx]
          clear hx hcut
          obtain ⟨y, hy⟩ : ∃ y : Int, (x : Int) = y := ⟨_, rfl⟩
          rw [hy]
          by_cases ho : odd 128 x
          · have HR := Lib.hid (HL3.out.1 ho)
            rcases ho with ho | ho | ho
            · have h5 : y < 128 := by omega
              clear hy ho
              go_wp2
              go_ret
              exact ⟨by rw [HR.out]; rfl, rfl⟩
            · have h5 : (1114111 : Int) < y := by omega
              clear ho hy
              go_wp2
              go_ret
              exact ⟨by rw [HR.out]; rfl, rfl⟩
            · have h5 : (55296 : Int) ≤ y := by omega
              have h6 : y ≤ 57343 := by omega
              clear ho hy
              go_wp2
              go_ret
              exact ⟨by rw [HR.out]; rfl, rfl⟩
          · have HR := Lib.hid (HL3.out.2 ho)
            have h7 : (128 : Int) ≤ y := by unfold odd at ho; omega
            have h8 : ¬ (1114111 : Int) < y := by unfold odd at ho; omega
            by_cases h9 : x < 55296
            · have h5 : y < 55296 := by omega
              have h10 : ¬ (55296 : Int) ≤ y := by omega
              clear ho h9 h5 hy
              go_wp2
              go_ret
              exact ⟨by rw [HR.out]; rfl, rfl⟩
            · have h5 : (57343 : Int) < y := by unfold odd at ho; omega
              clear ho h9 hy
              go_wp2
              go_ret
              exact ⟨by rw [HR.out]; rfl, rfl⟩
    · have hf2 : ¬ (a : Int) + 2 ≤ (s.size : Int) := by omega
      have HR := Lib.hid (H1.out (.inr (by have := HML.out; show m.length < 2; omega)))
      go_enter Tryz.func161, Tryz.ntmps161
      go_wp2
      go_ret
      exact ⟨by rw [HR.out]; rfl, rfl⟩
  · have p2 : (224 : Int) ≤ (s[a].toNat : Int) := by omega
    have q2 : (s[a].toNat : Int) ≤ 239 := by omega
    have HE := Lib.hid e
    rw [e] at H1
    have HC2 := Lib.hid (fun (k : Nat) (h1 : 1 ≤ k) (h2 : k < 3) h => H2.out k h1 (by rw [e]; exact h2) h)
    have HC3 := Lib.hid (H3.out 3 2048 e (by omega))
    clear p q e H2 H3
    by_cases hfit : a + 3 ≤ s.size
    · have hf2 : (a : Int) + 3 ≤ (s.size : Int) := by omega
      go_enter Tryz.func161, Tryz.ntmps161
      go_wp2
      go_loopw [8] (fun i wr => ∃ k : Nat, 1 ≤ k ∧ k ≤ 3 ∧ i = .int .i64 (k : Int) ∧ wr = w ∧ Hid (∀ j, 1 ≤ j → j < k → 128 ≤ bt m j ∧ bt m j ≤ 191)) (fun i _ => 3 - (intOf i).toNat)
      case atStart => exact ⟨1, Nat.le_refl _, by omega, rfl, rfl, Lib.hid (fun j h1 h2 => by omega)⟩
      case round =>
        obtain ⟨k, hk1, hk, rfl, rfl, HC⟩ := hrel
        by_cases hlt : k < 3
        · have hk2 : (k : Int) < 3 := by omega
          have hak : a + k < s.size := by omega
          have hak2 : (a : Int) + (k : Int) < (s.size : Int) := by omega
          have z1 : (0 : Int) ≤ (a : Int) + (k : Int) := by omega
          have t1 : ((a : Int) + (k : Int)).toNat = a + k := by omega
          have HV := Lib.hid ((HG.out (a + k) hak).trans (HBT.out k))
          by_cases hlow : s[a + k].toNat < 128
          · have HR := Lib.hid (HC2.out k hk1 hlt (.inl (by rw [← HV.out]; exact hlow)))
            have hl2 : (s[a + k].toNat : Int) < 128 := by omega
            go_wp2
            go_ret
            exact ⟨by rw [HR.out]; rfl, rfl⟩
          · have hl2 : ¬ (s[a + k].toNat : Int) < 128 := by omega
            by_cases hhi : 191 < s[a + k].toNat
            · have HR := Lib.hid (HC2.out k hk1 hlt (.inr (by rw [← HV.out]; exact hhi)))
              have hl3 : (191 : Int) < (s[a + k].toNat : Int) := by omega
              go_wp2
              go_ret
              exact ⟨by rw [HR.out]; rfl, rfl⟩
            · have hl3 : ¬ (191 : Int) < (s[a + k].toNat : Int) := by omega
              have HN := Lib.hid (show ∀ j, 1 ≤ j → j < k + 1 → 128 ≤ bt m j ∧ bt m j ≤ 191 from fun j h1 h2 => by
                by_cases hj : j < k
                · exact HC.out j h1 hj
                · obtain rfl : j = k := by omega
                  rw [← HV.out]; omega)
              go_wp2
              go_roundw
              case rel => exact ⟨k + 1, by omega, by omega, by go_num, by trivial, HN⟩
              case measure => simp [intOf] <;> omega
        · obtain rfl : k = 3 := by omega
          have HL3 := Lib.hid (HC3.out (by have := HML.out; omega) HC.out)
          have hcut := HCUT.out 3
          have HM := Lib.hid (show (m.take 3).length = 3 by rw [List.length_take]; have := HML.out; omega)
          go_wp2_with fail
          rw [hcut]
          refine (rrune_any (m.take 3) wr (by rw [HM.out]; omega) (by rw [HM.out]; omega)).mono ?_
          rintro e w1 ⟨rfl, rfl⟩
          obtain ⟨x, hx⟩ : ∃ x, rv (m.take 3) = x := ⟨_, rfl⟩
          rw [hx] at HL3
          rw [hx]
          clear hx hcut
          obtain ⟨y, hy⟩ : ∃ y : Int, (x : Int) = y := ⟨_, rfl⟩
          rw [hy]
          by_cases ho : odd 2048 x
          · have HR := Lib.hid (HL3.out.1 ho)
            rcases ho with ho | ho | ho
            · have h5 : y < 2048 := by (have := ho; omega)
              clear ho hy
              go_wp2
              go_ret
              exact ⟨by rw [HR.out]; rfl, rfl⟩
            · have h5 : (1114111 : Int) < y := by omega
              clear ho hy
              go_wp2
              go_ret
              exact ⟨by rw [HR.out]; rfl, rfl⟩
            · have h5 : (55296 : Int) ≤ y := by omega
              have h6 : y ≤ 57343 := by omega
              clear ho hy
              go_wp2
              go_ret
              exact ⟨by rw [HR.out]; rfl, rfl⟩
          · have HR := Lib.hid (HL3.out.2 ho)
            have h7 : (2048 : Int) ≤ y := by unfold odd at ho; omega
            have h8 : ¬ (1114111 : Int) < y := by unfold odd at ho; omega
            by_cases h9 : x < 55296
            · have h5 : y < 55296 := by omega
              have h10 : ¬ (55296 : Int) ≤ y := by omega
              clear ho h9 h5 hy
              go_wp2
              go_ret
              exact ⟨by rw [HR.out]; rfl, rfl⟩
            · have h5 : (57343 : Int) < y := by unfold odd at ho; omega
              clear ho h9 hy
              go_wp2
              go_ret
              exact ⟨by rw [HR.out]; rfl, rfl⟩
    · have hf2 : ¬ (a : Int) + 3 ≤ (s.size : Int) := by omega
      have HR := Lib.hid (H1.out (.inr (by have := HML.out; show m.length < 3; omega)))
      go_enter Tryz.func161, Tryz.ntmps161
      go_wp2
      go_ret
      exact ⟨by rw [HR.out]; rfl, rfl⟩
  · have p2 : (240 : Int) ≤ (s[a].toNat : Int) := by omega
    have q2 : (s[a].toNat : Int) ≤ 244 := by omega
    have HE := Lib.hid e
    rw [e] at H1
    have HC2 := Lib.hid (fun (k : Nat) (h1 : 1 ≤ k) (h2 : k < 4) h => H2.out k h1 (by rw [e]; exact h2) h)
    have HC3 := Lib.hid (H3.out 4 65536 e (by omega))
    clear p q e H2 H3
    by_cases hfit : a + 4 ≤ s.size
    · have hf2 : (a : Int) + 4 ≤ (s.size : Int) := by omega
      go_enter Tryz.func161, Tryz.ntmps161
      go_wp2
      go_loopw [8] (fun i wr => ∃ k : Nat, 1 ≤ k ∧ k ≤ 4 ∧ i = .int .i64 (k : Int) ∧ wr = w ∧ Hid (∀ j, 1 ≤ j → j < k → 128 ≤ bt m j ∧ bt m j ≤ 191)) (fun i _ => 4 - (intOf i).toNat)
      case atStart => exact ⟨1, Nat.le_refl _, by omega, rfl, rfl, Lib.hid (fun j h1 h2 => by omega)⟩
      case round =>
        obtain ⟨k, hk1, hk, rfl, rfl, HC⟩ := hrel
        by_cases hlt : k < 4
        · have hk2 : (k : Int) < 4 := by omega
          have hak : a + k < s.size := by omega
          have hak2 : (a : Int) + (k : Int) < (s.size : Int) := by omega
          have z1 : (0 : Int) ≤ (a : Int) + (k : Int) := by omega
          have t1 : ((a : Int) + (k : Int)).toNat = a + k := by omega
          have HV := Lib.hid ((HG.out (a + k) hak).trans (HBT.out k))
          by_cases hlow : s[a + k].toNat < 128
          · have HR := Lib.hid (HC2.out k hk1 hlt (.inl (by rw [← HV.out]; exact hlow)))
            have hl2 : (s[a + k].toNat : Int) < 128 := by omega
            go_wp2
            go_ret
            exact ⟨by rw [HR.out]; rfl, rfl⟩
          · have hl2 : ¬ (s[a + k].toNat : Int) < 128 := by omega
            by_cases hhi : 191 < s[a + k].toNat
            · have HR := Lib.hid (HC2.out k hk1 hlt (.inr (by rw [← HV.out]; exact hhi)))
              have hl3 : (191 : Int) < (s[a + k].toNat : Int) := by omega
              go_wp2
              go_ret
              exact ⟨by rw [HR.out]; rfl, rfl⟩
            · have hl3 : ¬ (191 : Int) < (s[a + k].toNat : Int) := by omega
              have HN := Lib.hid (show ∀ j, 1 ≤ j → j < k + 1 → 128 ≤ bt m j ∧ bt m j ≤ 191 from fun j h1 h2 => by
                by_cases hj : j < k
                · exact HC.out j h1 hj
                · obtain rfl : j = k := by omega
                  rw [← HV.out]; omega)
              go_wp2
              go_roundw
              case rel => exact ⟨k + 1, by omega, by omega, by go_num, by trivial, HN⟩
              case measure => simp [intOf] <;> omega
        · obtain rfl : k = 4 := by omega
          have HL3 := Lib.hid (HC3.out (by have := HML.out; omega) HC.out)
          have hcut := HCUT.out 4
          have HM := Lib.hid (show (m.take 4).length = 4 by rw [List.length_take]; have := HML.out; omega)
          go_wp2_with fail
          rw [hcut]
          refine (rrune_any (m.take 4) wr (by rw [HM.out]; omega) (by rw [HM.out]; omega)).mono ?_
          rintro e w1 ⟨rfl, rfl⟩
          obtain ⟨x, hx⟩ : ∃ x, rv (m.take 4) = x := ⟨_, rfl⟩
          rw [hx] at HL3
          rw [hx]
          clear hx hcut
          obtain ⟨y, hy⟩ : ∃ y : Int, (x : Int) = y := ⟨_, rfl⟩
          rw [hy]
          by_cases ho : odd 65536 x
          · have HR := Lib.hid (HL3.out.1 ho)
            rcases ho with ho | ho | ho
            · have h5 : y < 65536 := by (have := ho; omega)
              clear ho hy
              go_wp2
              go_ret
              exact ⟨by rw [HR.out]; rfl, rfl⟩
            · have h5 : (1114111 : Int) < y := by omega
              clear ho hy
              go_wp2
              go_ret
              exact ⟨by rw [HR.out]; rfl, rfl⟩
            · have h5 : (55296 : Int) ≤ y := by omega
              have h6 : y ≤ 57343 := by omega
              clear ho hy
              go_wp2
              go_ret
              exact ⟨by rw [HR.out]; rfl, rfl⟩
          · have HR := Lib.hid (HL3.out.2 ho)
            have h7 : (65536 : Int) ≤ y := by unfold odd at ho; omega
            have h8 : ¬ (1114111 : Int) < y := by unfold odd at ho; omega
            by_cases h9 : x < 55296
            · exfalso; omega
            · have h5 : (57343 : Int) < y := by unfold odd at ho; omega
              clear ho h9 hy
              go_wp2
              go_ret
              exact ⟨by rw [HR.out]; rfl, rfl⟩
    · have hf2 : ¬ (a : Int) + 4 ≤ (s.size : Int) := by omega
      have HR := Lib.hid (H1.out (.inr (by have := HML.out; show m.length < 4; omega)))
      go_enter Tryz.func161, Tryz.ntmps161
      go_wp2
      go_ret
      exact ⟨by rw [HR.out]; rfl, rfl⟩
  · have HR := Lib.hid (H1.out (.inl (by rw [e])))
    clear e
    rcases p with p | p
    · have p2 : (s[a].toNat : Int) < 194 := by omega
      clear p
      go_enter Tryz.func161, Tryz.ntmps161
      go_wp2
      go_ret
      exact ⟨by rw [HR.out]; rfl, rfl⟩
    · have p2 : (244 : Int) < (s[a].toNat : Int) := by omega
      clear p
      go_enter Tryz.func161, Tryz.ntmps161
      go_wp2
      go_ret
      exact ⟨by rw [HR.out]; rfl, rfl⟩
end Go.Proofs.YtfinpehbpcckaaaGreatDoor
end
section
namespace Go.Proofs.YtfinpehbpcckaaaGreatDoor
open Go.RowKit
set_option linter.unusedVariables false

def unitsL : Nat → List UInt8 → List (List UInt8)
  | 0, _ => []
  | f + 1, l => if l = [] then [] else l.take (uN l).2 :: unitsL f (l.drop (uN l).2)
/-- The units of a text. -/
def unitsP (l : List UInt8) : List (List UInt8) := unitsL l.length l
theorem unitsL_fuel : ∀ (k j : Nat) (l : List UInt8), l.length ≤ k → l.length ≤ j → unitsL k l = unitsL j l
  | 0, j, l, h, _ => by
    have : l = [] := List.eq_nil_of_length_eq_zero (by omega)
    subst this
    cases j with
    | zero => rfl
    | succ j => unfold unitsL; rw [if_pos rfl]
  | k + 1, 0, l, _, h => by
    have : l = [] := List.eq_nil_of_length_eq_zero (by omega)
    subst this
    show unitsL (k + 1) [] = []
    unfold unitsL; rw [if_pos rfl]
  | k + 1, j + 1, l, h1, h2 => by
    unfold unitsL
    by_cases hl : l = []
    · rw [if_pos hl, if_pos hl]
    · have hp := uN_pos l hl
      rw [if_neg hl, if_neg hl, unitsL_fuel k j _ (by rw [List.length_drop]; omega) (by rw [List.length_drop]; omega)]
theorem unitsP_nil : unitsP [] = [] := rfl
theorem unitsP_cons {l : List UInt8} (h : l ≠ []) : unitsP l = l.take (uN l).2 :: unitsP (l.drop (uN l).2) := by
  have hp := uN_pos l h
  have hl : l.length = (l.length - 1) + 1 := by have := List.length_pos_iff.2 h; omega
  unfold unitsP
  rw [hl]
  conv => lhs; unfold unitsL
  rw [if_neg h, unitsL_fuel (l.length - 1) (l.drop (uN l).2).length _ (by rw [List.length_drop]; omega) (Nat.le_refl _)]
def UnitsRel (w : World) (l : List UInt8) (pos : Nat) (v : Value) (wr : World) : Prop := ∃ acc, OwnStrs wr w.heap.size v acc ∧ Below w.heap.size w wr ∧ acc ++ unitsP (l.drop pos) = unitsP l ∧ acc.length ≤ pos
set_option maxRecDepth 100000 in
set_option maxHeartbeats 4000000 in
theorem units_any (l : List UInt8) (w : World) (hl : l.length ≤ 1000000000) : Calls Tryz.prog 135 #[.string (ba l)] w (StrsBack w (unitsP l)) := by
  have hsz : (ba l).size = l.length := ba_size l
  have HSZ := Lib.hid hsz
  rw [← hsz] at hl
  clear hsz
  go_enter Tryz.func135, Tryz.ntmps135
  go_wp2
  go_loopw [3, 4] (fun v i wr => ∃ pos : Nat, pos ≤ (ba l).size ∧ i = .int .i64 (pos : Int) ∧ Hid (UnitsRel w l pos v wr)) (fun _ i _ => (ba l).size - (intOf i).toNat)
  case atStart => exact ⟨0, Nat.zero_le _, rfl, [], OwnStrs.nil_ _ _, Below.refl _ _, rfl, Nat.le_refl _⟩
  case round =>
    obtain ⟨pos, hpos, rfl, HR⟩ := hrel
    obtain ⟨acc, hown, hbw, hacc, hal⟩ := HR.out
    by_cases hp : pos < (ba l).size
    · have hp2 : (pos : Int) < ((ba l).size : Int) := by omega
      have hne : l.drop pos ≠ [] := by intro e; have := congrArg List.length e; rw [List.length_drop, ← HSZ.out] at this; simp at this; omega
      have hup := uN_pos _ hne
      rw [unitsP_cons hne, List.drop_drop] at hacc
      have HLN := Lib.hid (rlen_any l pos wr (by rw [← HSZ.out]; exact hp) (by rw [← HSZ.out]; exact hl))
      obtain ⟨⟨r, n⟩, hrn⟩ : ∃ q, uN (l.drop pos) = q := ⟨_, rfl⟩
      rw [hrn] at hup hacc HLN
      dsimp only at hup hacc HLN
      rw [List.length_drop, ← HSZ.out] at hup
      have hcut : (ba l).extract pos (pos + n) = ba ((l.drop pos).take n) := by rw [ba_cut, List.take_drop]
      have HCUT := Lib.hid hcut
      have HOWN := Lib.hid hown
      have HBW := Lib.hid hbw
      have hB : w.heap.size ≤ wr.heap.size := hbw.size
      have HACC := Lib.hid (show (acc ++ [(l.drop pos).take n]) ++ unitsP (l.drop (pos + n)) = unitsP l by rw [← hacc, List.append_assoc]; rfl)
      have HAL := Lib.hid (show (acc ++ [(l.drop pos).take n]).length ≤ pos + n by rw [List.length_append, List.length_singleton]; omega)
      have HA2 := Lib.hid (show acc.length < 1099511627776 by omega)
      clear hcut hown hbw hacc hal HR hrn hne
      go_wp2_with fail
      refine HLN.out.mono ?_
      rintro e w1 ⟨rfl, rfl⟩
      go_wp2_with (at_builtin; rw [HCUT.out]; go_must (refine wpList_pushStr (s := (l.drop pos).take n) HOWN.out hB HA2.out rfl (.tmp 13) (.tmp 20) 42 1 rfl Tryz.underlying42 rfl rfl ?_); intro v2 w2 h1 h2 h3; (have H1 := Lib.hid h1; have H2 := Lib.hid h2; clear h1 h2 h3))
      go_roundw
      case rel =>
        exact ⟨pos + n, by omega, by go_num, _, H1.out, HBW.out.grown H2.out hB fun g e => (HOWN.out.lt g e).1, HACC.out, HAL.out⟩
      case measure => simp [intOf] <;> omega
    · obtain rfl : pos = (ba l).size := by omega
      have HF := Lib.hid (show acc = unitsP l by
        rw [← hacc, List.drop_of_length_le (by rw [← HSZ.out]; exact Nat.le_refl _), unitsP_nil, List.append_nil])
      have HO := Lib.hid hown
      have HB := Lib.hid hbw
      clear hown hbw hacc hal HR
      go_wp2
      go_ret
      exact ⟨_, rfl, by rw [← HF.out]; exact HO.out, HB.out⟩
end Go.Proofs.YtfinpehbpcckaaaGreatDoor
end
section
namespace Go.Proofs.YtfinpehbpcckaaaGreatDoor
set_option linter.unusedVariables false

/-- What the reference appends for a unit. -/
def gU (u : List UInt8) : List UInt8 :=
  if u.length = 1 then (if bt u 0 < 128 then [UInt8.ofNat (rlower (bt u 0)).toNat] else u)
  else if u.length = 2 then [UInt8.ofNat (192 + (rlower (rv u)).toNat / 64), UInt8.ofNat (128 + (rlower (rv u)).toNat % 64)]
  else u
theorem gU_take {l : List UInt8} (h : l ≠ []) : gU (l.take (uN l).2) = foldU l := by
  have hp := uN_pos l h
  have h2 := uN_cases l h
  obtain ⟨⟨r, n⟩, hq⟩ : ∃ q, uN l = q := ⟨_, rfl⟩
  unfold foldU
  rw [hq] at hp h2
  rw [hq]
  dsimp only at hp h2 ⊢
  have hl : (l.take n).length = n := by rw [List.length_take]; omega
  unfold gU
  rw [hl, bt_take (by omega)]
  by_cases h1 : n = 1
  · subst h1
    rw [if_pos rfl, if_pos rfl]
  · rw [if_neg h1, if_neg h1]
    by_cases h3 : n = 2
    · subst h3
      rw [if_pos rfl, if_pos rfl]
      have hv : rv (l.take 2) = r := by
        unfold rv
        rw [hl, if_neg (by omega)]
        show bt (l.take 2) 0 % mo (l.take 2).length * 64 + bt (l.take 2) 1 % 64 = _
        rw [hl, bt_take (by omega), bt_take (by omega)]
        show bt l 0 % 32 * 64 + bt l 1 % 64 = r
        omega
      rw [hv]
    · rw [if_neg h3, if_neg h3]
theorem fold_units : ∀ (k : Nat) (l : List UInt8), l.length ≤ k → foldP l = (unitsP l).flatMap gU
  | 0, l, h => by
    have : l = [] := List.eq_nil_of_length_eq_zero (by omega)
    subst this
    rfl
  | k + 1, l, h => by
    by_cases hl : l = []
    · subst hl; rfl
    · have hp := uN_pos l hl
      rw [foldP_cons hl, unitsP_cons hl, List.flatMap_cons, gU_take hl, fold_units k _ (by rw [List.length_drop]; omega)]
theorem units_mem : ∀ (k : Nat) (l : List UInt8), l.length ≤ k → ∀ u, u ∈ unitsP l → 1 ≤ u.length ∧ u.length ≤ 4
  | 0, l, h, u, hu => by
    have : l = [] := List.eq_nil_of_length_eq_zero (by omega)
    subst this
    cases hu
  | k + 1, l, h, u, hu => by
    by_cases hl : l = []
    · subst hl; cases hu
    · have hp := uN_pos l hl
      rw [unitsP_cons hl] at hu
      rcases List.mem_cons.1 hu with rfl | hu
      · rw [List.length_take]; omega
      · exact units_mem k _ (by rw [List.length_drop]; omega) u hu
theorem gU_len (u : List UInt8) (h : u.length ≤ 4) : (gU u).length ≤ 4 := by
  unfold gU
  repeat' split
  all_goals first | exact h | simp
theorem gU_all (us : List (List UInt8)) (h : ∀ u, u ∈ us → u.length ≤ 4) : (us.flatMap gU).length ≤ 4 * us.length := by
  induction us with
  | nil => simp
  | cons u r ih =>
    have h1 := gU_len u (h u (List.mem_cons_self ..))
    have h2 := ih fun v hv => h v (List.mem_cons_of_mem _ hv)
    rw [List.flatMap_cons, List.length_append, List.length_cons]
    omega
theorem units_len : ∀ (k : Nat) (l : List UInt8), l.length ≤ k → (unitsP l).length ≤ l.length
  | 0, l, h => by
    have : l = [] := List.eq_nil_of_length_eq_zero (by omega)
    subst this
    simp [unitsP_nil]
  | k + 1, l, h => by
    by_cases hl : l = []
    · subst hl; simp [unitsP_nil]
    · have hp := uN_pos l hl
      have h1 := units_len k (l.drop (uN l).2) (by rw [List.length_drop]; omega)
      rw [unitsP_cons hl, List.length_cons]
      rw [List.length_drop] at h1
      omega
end Go.Proofs.YtfinpehbpcckaaaGreatDoor
end
section
namespace Go.Proofs.YtfinpehbpcckaaaGreatDoor
open Go.RowKit
set_option linter.unusedVariables false

theorem rin_yes (n lo hi : Int) (w : World) (h0 : lo ≤ n) (h1 : n ≤ hi) : Calls Tryz.prog 173 #[.int .i64 n, .int .i64 lo, .int .i64 hi] w fun e w' => e = .returned (.bool true) ∧ w' = w := by
  go_enter Tryz.func173, Tryz.ntmps173
  go_wp2
  go_ret
  exact ⟨rfl, rfl⟩
theorem rin_no (n lo hi : Int) (w : World) (h : ¬ (lo ≤ n ∧ n ≤ hi)) : Calls Tryz.prog 173 #[.int .i64 n, .int .i64 lo, .int .i64 hi] w fun e w' => e = .returned (.bool false) ∧ w' = w := by
  by_cases h0 : lo ≤ n
  · have h1 : ¬ n ≤ hi := fun e => h ⟨h0, e⟩
    clear h
    go_enter Tryz.func173, Tryz.ntmps173
    go_wp2
    go_ret
    exact ⟨rfl, rfl⟩
  · clear h
    go_enter Tryz.func173, Tryz.ntmps173
    go_wp2
    go_ret
    exact ⟨rfl, rfl⟩
set_option maxRecDepth 100000 in
set_option maxHeartbeats 40000000 in
theorem rkind_any (r : Int) (w : World) : Calls Tryz.prog 162 #[.int .i64 r] w fun e w' => e = .returned (.int .i64 (kindP r)) ∧ w' = w := by
  go_enter Tryz.func162, Tryz.ntmps162
  go_wp2_with fail
  by_cases h1 : 11904 ≤ r ∧ r ≤ 12255
  · obtain ⟨ha, hb⟩ := h1
    have HK := Lib.hid (show kindP r = 2 by unfold kindP kOwn kWord kNone; simp only [decide_eq_true_eq]; repeat' split; all_goals omega)
    refine (rin_yes r 11904 12255 _ ha hb).mono ?_
    rintro e w' ⟨rfl, rfl⟩
    go_wp2
    go_ret
    exact ⟨by rw [HK.out]; rfl, rfl⟩
  have H1 := Lib.hid h1
  clear h1
  refine (rin_no r 11904 12255 _ H1.out).mono ?_
  rintro e w' ⟨rfl, rfl⟩
  go_wp2_with fail
  by_cases h2 : 12353 ≤ r ∧ r ≤ 12543
  · obtain ⟨ha, hb⟩ := h2
    have HK := Lib.hid (show kindP r = 2 by unfold kindP kOwn kWord kNone; simp only [decide_eq_true_eq]; repeat' split; all_goals omega)
    refine (rin_yes r 12353 12543 _ ha hb).mono ?_
    rintro e w' ⟨rfl, rfl⟩
    go_wp2
    go_ret
    exact ⟨by rw [HK.out]; rfl, rfl⟩
  have H2 := Lib.hid h2
  clear h2
  refine (rin_no r 12353 12543 _ H2.out).mono ?_
  rintro e w' ⟨rfl, rfl⟩
  go_wp2_with fail
  by_cases h3 : 12549 ≤ r ∧ r ≤ 12591
  · obtain ⟨ha, hb⟩ := h3
    have HK := Lib.hid (show kindP r = 2 by unfold kindP kOwn kWord kNone; simp only [decide_eq_true_eq]; repeat' split; all_goals omega)
    refine (rin_yes r 12549 12591 _ ha hb).mono ?_
    rintro e w' ⟨rfl, rfl⟩
    go_wp2
    go_ret
    exact ⟨by rw [HK.out]; rfl, rfl⟩
  have H3 := Lib.hid h3
  clear h3
  refine (rin_no r 12549 12591 _ H3.out).mono ?_
  rintro e w' ⟨rfl, rfl⟩
  go_wp2_with fail
  by_cases h4 : 12593 ≤ r ∧ r ≤ 12686
  · obtain ⟨ha, hb⟩ := h4
    have HK := Lib.hid (show kindP r = 2 by unfold kindP kOwn kWord kNone; simp only [decide_eq_true_eq]; repeat' split; all_goals omega)
    refine (rin_yes r 12593 12686 _ ha hb).mono ?_
    rintro e w' ⟨rfl, rfl⟩
    go_wp2
    go_ret
    exact ⟨by rw [HK.out]; rfl, rfl⟩
  have H4 := Lib.hid h4
  clear h4
  refine (rin_no r 12593 12686 _ H4.out).mono ?_
  rintro e w' ⟨rfl, rfl⟩
  go_wp2_with fail
  by_cases h5 : 13312 ≤ r ∧ r ≤ 19903
  · obtain ⟨ha, hb⟩ := h5
    have HK := Lib.hid (show kindP r = 2 by unfold kindP kOwn kWord kNone; simp only [decide_eq_true_eq]; repeat' split; all_goals omega)
    refine (rin_yes r 13312 19903 _ ha hb).mono ?_
    rintro e w' ⟨rfl, rfl⟩
    go_wp2
    go_ret
    exact ⟨by rw [HK.out]; rfl, rfl⟩
  have H5 := Lib.hid h5
  clear h5
  refine (rin_no r 13312 19903 _ H5.out).mono ?_
  rintro e w' ⟨rfl, rfl⟩
  go_wp2_with fail
  by_cases h6 : 19968 ≤ r ∧ r ≤ 40959
  · obtain ⟨ha, hb⟩ := h6
    have HK := Lib.hid (show kindP r = 2 by unfold kindP kOwn kWord kNone; simp only [decide_eq_true_eq]; repeat' split; all_goals omega)
    refine (rin_yes r 19968 40959 _ ha hb).mono ?_
    rintro e w' ⟨rfl, rfl⟩
    go_wp2
    go_ret
    exact ⟨by rw [HK.out]; rfl, rfl⟩
  have H6 := Lib.hid h6
  clear h6
  refine (rin_no r 19968 40959 _ H6.out).mono ?_
  rintro e w' ⟨rfl, rfl⟩
  go_wp2_with fail
  by_cases h7 : 44032 ≤ r ∧ r ≤ 55203
  · obtain ⟨ha, hb⟩ := h7
    have HK := Lib.hid (show kindP r = 2 by unfold kindP kOwn kWord kNone; simp only [decide_eq_true_eq]; repeat' split; all_goals omega)
    refine (rin_yes r 44032 55203 _ ha hb).mono ?_
    rintro e w' ⟨rfl, rfl⟩
    go_wp2
    go_ret
    exact ⟨by rw [HK.out]; rfl, rfl⟩
  have H7 := Lib.hid h7
  clear h7
  refine (rin_no r 44032 55203 _ H7.out).mono ?_
  rintro e w' ⟨rfl, rfl⟩
  go_wp2_with fail
  by_cases h8 : 63744 ≤ r ∧ r ≤ 64255
  · obtain ⟨ha, hb⟩ := h8
    have HK := Lib.hid (show kindP r = 2 by unfold kindP kOwn kWord kNone; simp only [decide_eq_true_eq]; repeat' split; all_goals omega)
    refine (rin_yes r 63744 64255 _ ha hb).mono ?_
    rintro e w' ⟨rfl, rfl⟩
    go_wp2
    go_ret
    exact ⟨by rw [HK.out]; rfl, rfl⟩
  have H8 := Lib.hid h8
  clear h8
  refine (rin_no r 63744 64255 _ H8.out).mono ?_
  rintro e w' ⟨rfl, rfl⟩
  go_wp2_with fail
  by_cases h9 : 131072 ≤ r ∧ r ≤ 262143
  · obtain ⟨ha, hb⟩ := h9
    have HK := Lib.hid (show kindP r = 2 by unfold kindP kOwn kWord kNone; simp only [decide_eq_true_eq]; repeat' split; all_goals omega)
    refine (rin_yes r 131072 262143 _ ha hb).mono ?_
    rintro e w' ⟨rfl, rfl⟩
    go_wp2
    go_ret
    exact ⟨by rw [HK.out]; rfl, rfl⟩
  have H9 := Lib.hid h9
  clear h9
  refine (rin_no r 131072 262143 _ H9.out).mono ?_
  rintro e w' ⟨rfl, rfl⟩
  go_wp2_with fail
  by_cases h10 : 48 ≤ r ∧ r ≤ 57
  · obtain ⟨ha, hb⟩ := h10
    have HK := Lib.hid (show kindP r = 1 by unfold kindP kOwn kWord kNone; simp only [decide_eq_true_eq]; repeat' split; all_goals omega)
    refine (rin_yes r 48 57 _ ha hb).mono ?_
    rintro e w' ⟨rfl, rfl⟩
    go_wp2
    go_ret
    exact ⟨by rw [HK.out]; rfl, rfl⟩
  have H10 := Lib.hid h10
  clear h10
  refine (rin_no r 48 57 _ H10.out).mono ?_
  rintro e w' ⟨rfl, rfl⟩
  go_wp2_with fail
  by_cases h11 : 65 ≤ r ∧ r ≤ 90
  · obtain ⟨ha, hb⟩ := h11
    have HK := Lib.hid (show kindP r = 1 by unfold kindP kOwn kWord kNone; simp only [decide_eq_true_eq]; repeat' split; all_goals omega)
    refine (rin_yes r 65 90 _ ha hb).mono ?_
    rintro e w' ⟨rfl, rfl⟩
    go_wp2
    go_ret
    exact ⟨by rw [HK.out]; rfl, rfl⟩
  have H11 := Lib.hid h11
  clear h11
  refine (rin_no r 65 90 _ H11.out).mono ?_
  rintro e w' ⟨rfl, rfl⟩
  go_wp2_with fail
  by_cases h12 : 97 ≤ r ∧ r ≤ 122
  · obtain ⟨ha, hb⟩ := h12
    have HK := Lib.hid (show kindP r = 1 by unfold kindP kOwn kWord kNone; simp only [decide_eq_true_eq]; repeat' split; all_goals omega)
    refine (rin_yes r 97 122 _ ha hb).mono ?_
    rintro e w' ⟨rfl, rfl⟩
    go_wp2
    go_ret
    exact ⟨by rw [HK.out]; rfl, rfl⟩
  have H12 := Lib.hid h12
  clear h12
  refine (rin_no r 97 122 _ H12.out).mono ?_
  rintro e w' ⟨rfl, rfl⟩
  by_cases g215 : r = 215
  · subst g215
    have HK := Lib.hid (show kindP 215 = 0 by decide)
    go_wp2
    go_ret
    exact ⟨by rw [HK.out]; rfl, rfl⟩
  have e215 : (r == 215) = false := by simpa using g215
  by_cases g247 : r = 247
  · subst g247
    have HK := Lib.hid (show kindP 247 = 0 by decide)
    go_wp2
    go_ret
    exact ⟨by rw [HK.out]; rfl, rfl⟩
  have e247 : (r == 247) = false := by simpa using g247
  have G1 := Lib.hid g215
  have G2 := Lib.hid g247
  clear g215 g247
  go_wp2_with fail
  by_cases h13 : 8192 ≤ r ∧ r ≤ 11263
  · obtain ⟨ha, hb⟩ := h13
    have HK := Lib.hid (show kindP r = 0 by unfold kindP kOwn kWord kNone; simp only [decide_eq_true_eq]; repeat' split; all_goals omega)
    refine (rin_yes r 8192 11263 _ ha hb).mono ?_
    rintro e w' ⟨rfl, rfl⟩
    go_wp2
    go_ret
    exact ⟨by rw [HK.out]; rfl, rfl⟩
  have H13 := Lib.hid h13
  clear h13
  refine (rin_no r 8192 11263 _ H13.out).mono ?_
  rintro e w' ⟨rfl, rfl⟩
  go_wp2_with fail
  by_cases h14 : 12288 ≤ r ∧ r ≤ 12351
  · obtain ⟨ha, hb⟩ := h14
    have HK := Lib.hid (show kindP r = 0 by unfold kindP kOwn kWord kNone; simp only [decide_eq_true_eq]; repeat' split; all_goals omega)
    refine (rin_yes r 12288 12351 _ ha hb).mono ?_
    rintro e w' ⟨rfl, rfl⟩
    go_wp2
    go_ret
    exact ⟨by rw [HK.out]; rfl, rfl⟩
  have H14 := Lib.hid h14
  clear h14
  refine (rin_no r 12288 12351 _ H14.out).mono ?_
  rintro e w' ⟨rfl, rfl⟩
  go_wp2_with fail
  by_cases h15 : 55296 ≤ r ∧ r ≤ 63743
  · obtain ⟨ha, hb⟩ := h15
    have HK := Lib.hid (show kindP r = 0 by unfold kindP kOwn kWord kNone; simp only [decide_eq_true_eq]; repeat' split; all_goals omega)
    refine (rin_yes r 55296 63743 _ ha hb).mono ?_
    rintro e w' ⟨rfl, rfl⟩
    go_wp2
    go_ret
    exact ⟨by rw [HK.out]; rfl, rfl⟩
  have H15 := Lib.hid h15
  clear h15
  refine (rin_no r 55296 63743 _ H15.out).mono ?_
  rintro e w' ⟨rfl, rfl⟩
  go_wp2_with fail
  by_cases h16 : 65024 ≤ r ∧ r ≤ 65039
  · obtain ⟨ha, hb⟩ := h16
    have HK := Lib.hid (show kindP r = 0 by unfold kindP kOwn kWord kNone; simp only [decide_eq_true_eq]; repeat' split; all_goals omega)
    refine (rin_yes r 65024 65039 _ ha hb).mono ?_
    rintro e w' ⟨rfl, rfl⟩
    go_wp2
    go_ret
    exact ⟨by rw [HK.out]; rfl, rfl⟩
  have H16 := Lib.hid h16
  clear h16
  refine (rin_no r 65024 65039 _ H16.out).mono ?_
  rintro e w' ⟨rfl, rfl⟩
  go_wp2_with fail
  by_cases h17 : 65072 ≤ r ∧ r ≤ 65135
  · obtain ⟨ha, hb⟩ := h17
    have HK := Lib.hid (show kindP r = 0 by unfold kindP kOwn kWord kNone; simp only [decide_eq_true_eq]; repeat' split; all_goals omega)
    refine (rin_yes r 65072 65135 _ ha hb).mono ?_
    rintro e w' ⟨rfl, rfl⟩
    go_wp2
    go_ret
    exact ⟨by rw [HK.out]; rfl, rfl⟩
  have H17 := Lib.hid h17
  clear h17
  refine (rin_no r 65072 65135 _ H17.out).mono ?_
  rintro e w' ⟨rfl, rfl⟩
  go_wp2_with fail
  by_cases h18 : 65280 ≤ r ∧ r ≤ 65295
  · obtain ⟨ha, hb⟩ := h18
    have HK := Lib.hid (show kindP r = 0 by unfold kindP kOwn kWord kNone; simp only [decide_eq_true_eq]; repeat' split; all_goals omega)
    refine (rin_yes r 65280 65295 _ ha hb).mono ?_
    rintro e w' ⟨rfl, rfl⟩
    go_wp2
    go_ret
    exact ⟨by rw [HK.out]; rfl, rfl⟩
  have H18 := Lib.hid h18
  clear h18
  refine (rin_no r 65280 65295 _ H18.out).mono ?_
  rintro e w' ⟨rfl, rfl⟩
  go_wp2_with fail
  by_cases h19 : 65520 ≤ r ∧ r ≤ 65535
  · obtain ⟨ha, hb⟩ := h19
    have HK := Lib.hid (show kindP r = 0 by unfold kindP kOwn kWord kNone; simp only [decide_eq_true_eq]; repeat' split; all_goals omega)
    refine (rin_yes r 65520 65535 _ ha hb).mono ?_
    rintro e w' ⟨rfl, rfl⟩
    go_wp2
    go_ret
    exact ⟨by rw [HK.out]; rfl, rfl⟩
  have H19 := Lib.hid h19
  clear h19
  refine (rin_no r 65520 65535 _ H19.out).mono ?_
  rintro e w' ⟨rfl, rfl⟩
  go_wp2_with fail
  by_cases h20 : 126976 ≤ r ∧ r ≤ 129791
  · obtain ⟨ha, hb⟩ := h20
    have HK := Lib.hid (show kindP r = 0 by unfold kindP kOwn kWord kNone; simp only [decide_eq_true_eq]; repeat' split; all_goals omega)
    refine (rin_yes r 126976 129791 _ ha hb).mono ?_
    rintro e w' ⟨rfl, rfl⟩
    go_wp2
    go_ret
    exact ⟨by rw [HK.out]; rfl, rfl⟩
  have H20 := Lib.hid h20
  clear h20
  refine (rin_no r 126976 129791 _ H20.out).mono ?_
  rintro e w' ⟨rfl, rfl⟩
  have hk : kindP r = if r < 192 ∨ 1114111 < r then 0 else 1 := by
    have a1 := H1.out; have a2 := H2.out; have a3 := H3.out; have a4 := H4.out; have a5 := H5.out; have a6 := H6.out; have a7 := H7.out; have a8 := H8.out; have a9 := H9.out; have a10 := H10.out; have a11 := H11.out; have a12 := H12.out; have a13 := H13.out; have a14 := H14.out; have a15 := H15.out; have a16 := H16.out; have a17 := H17.out; have a18 := H18.out; have a19 := H19.out; have a20 := H20.out; have b1 := G1.out; have b2 := G2.out; unfold kindP kOwn kWord kNone; simp only [decide_eq_true_eq]
    repeat' split
    all_goals omega
  by_cases c1 : r < 192
  · have HK := Lib.hid (show kindP r = 0 by rw [hk, if_pos (.inl c1)])
    clear hk
    go_wp2
    go_ret
    exact ⟨by rw [HK.out]; rfl, rfl⟩
  by_cases c2 : 1114111 < r
  · have HK := Lib.hid (show kindP r = 0 by rw [hk, if_pos (.inr c2)])
    clear hk
    go_wp2
    go_ret
    exact ⟨by rw [HK.out]; rfl, rfl⟩
  have HK := Lib.hid (show kindP r = 1 by rw [hk, if_neg (by omega)])
  clear hk
  go_wp2
  go_ret
  exact ⟨by rw [HK.out]; rfl, rfl⟩
end Go.Proofs.YtfinpehbpcckaaaGreatDoor
end
section
namespace Go.Proofs.YtfinpehbpcckaaaGreatDoor
open Go.RowKit
set_option linter.unusedVariables false

theorem ownsRow_set {w : World} {B : Nat} {e : TypeId} {size n cap g i : Nat} {xs : List Value} (h : w.ownsRow B e size (.slice (some ⟨g, 0, none⟩) n cap) n xs) (hi : i < xs.length) (u : Value) : (w.setCell ⟨g, i, none⟩ u).ownsRow B e size (.slice (some ⟨g, 0, none⟩) n cap) n (xs.set i u) := by
  refine ⟨by rw [List.length_set]; exact h.1, ?_⟩
  rcases h.2 with ⟨e1, _⟩ | ⟨g', cap', cur, e1, hb, hg, h1, h2, h3, h4⟩
  · cases e1
  · injection e1 with e1 e2 e3
    injection e1 with e1
    injection e1 with e1
    subst e1; subst e3
    refine .inr ⟨g, cap, cur.setIfInBounds i u, rfl, hb, heap_setCell_same w g i cur e u hg, h1, h2, by simpa using h3, ?_⟩
    rw [Array.toList_setIfInBounds, List.take_set, h4]
/-- A word under way: its text and its range. -/
abbrev Wd := List UInt8 × Nat × Nat
def wdCells (t : Wd) : List Value := [.string (ba t.1), .int .i64 t.2.1, .int .i64 t.2.2]
def OwnWds (w : World) (B : Nat) (v : Value) (ts : List Wd) : Prop := w.ownsRow B 106 3 v ts.length (ts.flatMap wdCells)
theorem OwnWds.nil_ (w : World) (B : Nat) : OwnWds w B (.slice none 0 0) [] := World.ownsRow_nil _ _ _ _
theorem OwnWds.below {w w' : World} {B : Nat} {v : Value} {ts : List Wd} (h : OwnWds w B v ts) (hb : Below w.heap.size w w') : OwnWds w' B v ts :=
  ownsRow_block h fun b e => hb.block b (h.lt b e).2
theorem OwnWds.drewN {w : World} {B : Nat} {v : Value} {ts : List Wd} (h : OwnWds w B v ts) (k : Nat) : OwnWds (w.drewN k) B v ts := h
theorem wd_len : ∀ ts : List Wd, (ts.flatMap wdCells).length = ts.length * 3 := fun ts => by induction ts with | nil => rfl | cons a r ih => simp [wdCells] at ih ⊢; omega
theorem wd_get : ∀ (ts : List Wd) j (hj : j < ts.length) i (hi : i < 3), (ts.flatMap wdCells)[j * 3 + i]? = (wdCells ts[j])[i]? := fun ts => by
  induction ts with
  | nil => intro j hj; simp at hj
  | cons a r ih =>
    intro j hj i hi
    cases j with
    | zero =>
      simp only [List.flatMap_cons, List.getElem_cons_zero, Nat.zero_mul, Nat.zero_add]
      rw [List.getElem?_append_left (by simp [wdCells]; omega)]
    | succ j =>
      have := ih j (by simpa using hj) i hi
      simp only [List.flatMap_cons, List.getElem_cons_succ]
      rw [List.getElem?_append_right (by simp [wdCells]; omega), show (j + 1) * 3 + i - (wdCells a).length = j * 3 + i by simp [wdCells]; omega]
      exact this
theorem wd_set : ∀ (ts : List Wd) (j : Nat) (hj : j < ts.length) (t : Wd) (i : Nat) (u : Value), i < 3 → (wdCells ts[j]).set i u = wdCells t → (ts.flatMap wdCells).set (j * 3 + i) u = (ts.set j t).flatMap wdCells := fun ts => by
  induction ts with
  | nil => intro j hj; simp at hj
  | cons a r ih =>
    intro j hj t i u hi h
    cases j with
    | zero =>
      simp only [List.flatMap_cons, List.getElem_cons_zero, Nat.zero_mul, Nat.zero_add, List.set_cons_zero] at h ⊢
      rw [List.set_append_left _ _ (by simp [wdCells]; omega), h]
    | succ j =>
      have := ih j (by simpa using hj) t i u hi (by simpa using h)
      simp only [List.flatMap_cons, List.set_cons_succ]
      rw [List.set_append_right _ _ (by simp [wdCells]; omega), show (j + 1) * 3 + i - (wdCells a).length = j * 3 + i by simp [wdCells]; omega, this]
/-- Where a row of words lies. -/
theorem OwnWds.at_ {w : World} {B : Nat} {v : Value} {ts : List Wd} (h : OwnWds w B v ts) {k : Nat} (hk : k < ts.length) : ∃ g c, v = .slice (some ⟨g, 0, none⟩) ts.length c ∧ B ≤ g ∧ g < w.heap.size ∧
    w.cell? ⟨g, k * 3, none⟩ = some (.string (ba ts[k].1)) ∧ w.cell? ⟨g, k * 3 + 1, none⟩ = some (.int .i64 ts[k].2.1) ∧ w.cell? ⟨g, k * 3 + 2, none⟩ = some (.int .i64 ts[k].2.2) ∧
    w.frozen? ⟨g, k * 3, none⟩ = false ∧ w.frozen? ⟨g, k * 3 + 2, none⟩ = false := by
  have h0 : w.ownsRow B 106 3 v ts.length (ts.flatMap wdCells) := h
  rcases h0.2 with ⟨rfl, hn⟩ | ⟨g, cap, cur, rfl, hb, hg, q1, q2, q3, q4⟩
  · omega
  · have hc : ∀ i u, i < 3 → (wdCells ts[k])[i]? = some u → w.cell? ⟨g, k * 3 + i, none⟩ = some u := fun i u hi hu => by
      have := h0.cells (g := g) rfl (k * 3 + i) u (by rw [wd_get ts k hk i hi]; exact hu)
      unfold Addr.add at this
      by_cases e0 : k * 3 + i = 0
      · rw [if_pos e0] at this; rw [e0]; exact this
      · rw [if_neg e0] at this; rw [Nat.zero_add] at this; exact this
    have hf : ∀ o, w.frozen? ⟨g, o, none⟩ = false := fun o => by simp [World.frozen?, hg]
    exact ⟨g, cap, rfl, hb, heap_lt hg, hc 0 _ (by omega) rfl, hc 1 _ (by omega) rfl, hc 2 _ (by omega) rfl, hf _, hf _⟩
/-- One cell of the row set. -/
theorem OwnWds.set {w : World} {B g c n : Nat} {ts : List Wd} (h : OwnWds w B (.slice (some ⟨g, 0, none⟩) n c) ts) {k i : Nat} (hk : k < ts.length) (hi : i < 3) {u : Value} {t : Wd} (ht : (wdCells ts[k]).set i u = wdCells t) : OwnWds (w.setCell ⟨g, k * 3 + i, none⟩ u) B (.slice (some ⟨g, 0, none⟩) n c) (ts.set k t) := by
  have h0 : w.ownsRow B 106 3 (.slice (some ⟨g, 0, none⟩) n c) ts.length (ts.flatMap wdCells) := h
  have hn : n = ts.length := by
    rcases h0.2 with ⟨e1, _⟩ | ⟨g', cap', cur, e1, _⟩
    · cases e1
    · injection e1
  subst hn
  have := ownsRow_set h0 (i := k * 3 + i) (by rw [wd_len]; omega) u
  rw [wd_set ts k hk t i u hi ht] at this
  show World.ownsRow _ _ _ _ _ (ts.set k t).length _
  rw [List.length_set]
  exact this
theorem OwnWds.words {w : World} {B : Nat} {v : Value} {ts : List Wd} {l : List UInt8} {ws : List (Nat × Nat)} (h : OwnWds w B v ts) (he : ts = ws.map fun r => (wordAt l r, r)) : OwnWords w B v l ws := by
  subst he
  have h0 : w.ownsRow B 106 3 v (ws.map fun r => (wordAt l r, r)).length ((ws.map fun r => (wordAt l r, r)).flatMap wdCells) := h
  rw [List.length_map, List.flatMap_map] at h0
  exact h0
/-- append of one word without a text. -/
theorem wpList_pushWd {ops : Array Oper} {rest : List Oper} {o : Oper} {a : Act} {W : World} {Q : Exit → Act → World → Prop} {B : Nat} {v : Value} {ts : List Wd} {t : Wd} (hT : OwnWds W B v ts) {b0 : ByteArray} {z1 z2 : Int} (hb0 : ba t.1 = b0) (hz1' : (t.2.1 : Int) = z1) (hz2' : (t.2.2 : Int) = z2) (hB : B ≤ W.heap.size)
    (hlen : ts.length ≤ 1000000000) (hgd : o.guard = none) (s y : Operand) (c : Nat)
    (ho : o.op = .call { callee := .builtin .append, args := #[s, y], argTypes := #[103, 103] }) (hs : a.eval s = v) (hx : a.eval y = .slice (some ⟨W.heap.size, 0, none⟩) 1 c)
    (h : ∀ v' w', OwnWds w' B v' (ts ++ [t]) → W.grownBy w' v.ownBlock → wpList Tryz.prog ops Q rest (a.put o.dst v') w') :
    wpList Tryz.prog ops Q (o :: rest) a (W.alloc (.cells #[.string b0, .int .i64 z1, .int .i64 z2] 106)) := by
  subst hb0; subst hz1'; subst hz2'
  obtain ⟨i0, hi, hz0, hz1, hz2⟩ := info_parts word_info
  refine wpList_append_own_at _ hgd s y 103 ho B 106 i0 _ 3 32 Tryz.underlying103 hi hz0 hz1 hz2 rfl (by omega) v ts.length (ts.flatMap wdCells) hs (World.ownsRow.alloc hT _) ⟨W.heap.size, 0, none⟩ 1 c (wdCells t) hx rfl (World.news_of_block (MapKept.heap_alloc W _).1) ?_ (by simp only [maxLen]; omega) (by omega) (by simp; omega) ?_
  · intro u hu
    simp only [wdCells, List.mem_cons, List.not_mem_nil, or_false] at hu
    rcases hu with rfl | rfl | rfl <;> rfl
  · intro v' w' h1 h2 _ h4
    have h5 := World.grownBy_alloc W (.cells #[.string (ba t.1), .int .i64 t.2.1, .int .i64 t.2.2] 106) v.ownBlock
    have hg : W.grownBy w' v.ownBlock := ⟨h2.os.trans h5.os, h2.tape.trans h5.tape, h2.output.trans h5.output, Nat.le_trans h5.size h2.size, fun k hk hne => (h2.block k (by simp; omega) hne).trans (h5.block k hk hne)⟩
    refine h v' w' ?_ hg
    show w'.ownsRow B _ 3 v' _ _
    simpa using h1

/-- The class of a unit. -/
def uK (u : List UInt8) : Int := if u.length = 1 ∧ 128 ≤ bt u 0 then 0 else kindP (rv u)
theorem uK_take {l : List UInt8} (h : l ≠ []) : uK (l.take (uN l).2) = wKind l := by
  have hp := uN_pos l h
  have h2 := uN_cases l h
  unfold wKind
  obtain ⟨⟨r, n⟩, hq⟩ : ∃ q, uN l = q := ⟨_, rfl⟩
  rw [hq] at hp h2
  rw [hq]
  dsimp only at hp h2 ⊢
  have hl : (l.take n).length = n := by rw [List.length_take]; omega
  have hb0 : bt (l.take n) 0 = bt l 0 := bt_take (by omega)
  have h65 : kindP (65533 : Nat) = 0 := by decide
  have key : rv (l.take n) = r → ¬ (n = 1 ∧ 128 ≤ bt l 0) → uK (l.take n) = if r = 65533 then 0 else kindP r := by
    intro hv hn
    unfold uK
    rw [hl, hb0, if_neg hn, hv]
    split
    · rename_i h; rw [h]; exact h65
    · rfl
  rcases h2 with ⟨h1, h2⟩ | ⟨h1, h2⟩ | ⟨h1, h2⟩ | ⟨h1, h2⟩
  · rcases h2 with ⟨h2, h3⟩ | ⟨h2, h3⟩
    · refine key ?_ (by omega)
      unfold rv
      rw [hl, if_pos h1, hb0, h3]
    · unfold uK
      rw [hl, hb0, if_pos ⟨h1, h2⟩, if_pos h3]
  · refine key ?_ (by omega)
    subst h1
    unfold rv
    rw [hl, if_neg (by omega)]
    show bt (l.take 2) 0 % mo (l.take 2).length * 64 + bt (l.take 2) 1 % 64 = _
    rw [hl, hb0, bt_take (by omega)]
    show bt l 0 % 32 * 64 + bt l 1 % 64 = r
    omega
  · refine key ?_ (by omega)
    subst h1
    unfold rv
    rw [hl, if_neg (by omega)]
    show (bt (l.take 3) 0 % mo (l.take 3).length * 64 + bt (l.take 3) 1 % 64) * 64 + bt (l.take 3) 2 % 64 = _
    rw [hl, hb0, bt_take (by omega), bt_take (by omega)]
    show (bt l 0 % 16 * 64 + bt l 1 % 64) * 64 + bt l 2 % 64 = r
    omega
  · refine key ?_ (by omega)
    subst h1
    unfold rv
    rw [hl, if_neg (by omega)]
    show ((bt (l.take 4) 0 % mo (l.take 4).length * 64 + bt (l.take 4) 1 % 64) * 64 + bt (l.take 4) 2 % 64) * 64 + bt (l.take 4) 3 % 64 = _
    rw [hl, hb0, bt_take (by omega), bt_take (by omega), bt_take (by omega)]
    show ((bt l 0 % 8 * 64 + bt l 1 % 64) * 64 + bt l 2 % 64) * 64 + bt l 3 % 64 = r
    omega
set_option maxRecDepth 100000 in
theorem runit_any (u : List UInt8) (w : World) (h1 : 1 ≤ u.length) (h4 : u.length ≤ 4) : Calls Tryz.prog 136 #[.string (ba u)] w fun e w' => e = .returned (.int .i64 (uK u)) ∧ w' = w := by
  have HR := Lib.hid (rrune_any u w h1 h4)
  have HK := Lib.hid (show uK u = if u.length = 1 ∧ 128 ≤ bt u 0 then 0 else kindP (rv u) from rfl)
  obtain ⟨s, hs⟩ : ∃ s, ba u = s := ⟨_, rfl⟩
  have hss : s.size = u.length := by rw [← hs, ba_size]
  have HG := Lib.hid (show ∀ j (hj : j < s.size), (s[j]'hj).toNat = bt u j from fun j hj => by subst hs; exact byte_at u j hj)
  rw [hs] at HR
  rw [hs]
  obtain ⟨n, hn⟩ : ∃ n, u.length = n := ⟨_, rfl⟩
  rw [hn] at HK hss h1 h4
  clear hs hn
  have hp : 0 < s.size := by omega
  by_cases hc : n = 1
  · subst hc
    have hz : (s.size : Int) = 1 := by omega
    by_cases hb : 128 ≤ s[0].toNat
    · have hb2 : (128 : Int) ≤ (s[0].toNat : Int) := by omega
      have HF := Lib.hid (show uK u = 0 by rw [HK.out, if_pos ⟨rfl, by rw [← HG.out 0 hp]; exact hb⟩])
      clear h1 h4
      go_enter Tryz.func136, Tryz.ntmps136
      go_wp2
      go_ret
      exact ⟨by rw [HF.out]; rfl, rfl⟩
    · have hb2 : ¬ (128 : Int) ≤ (s[0].toNat : Int) := by omega
      have HF := Lib.hid (show uK u = kindP (rv u) by rw [HK.out, if_neg (by rw [← HG.out 0 hp]; omega)])
      clear h1 h4
      go_enter Tryz.func136, Tryz.ntmps136
      go_wp2_with fail
      refine HR.out.mono ?_
      rintro e w' ⟨rfl, rfl⟩
      go_wp2_with fail
      refine (rkind_any _ _).mono ?_
      rintro e w' ⟨rfl, rfl⟩
      go_wp2
      go_ret
      exact ⟨by rw [HF.out]; rfl, rfl⟩
  · have hz : ¬ (s.size : Int) = 1 := by omega
    have hz2 : ((s.size : Int) == 1) = false := by simpa using hz
    have HF := Lib.hid (show uK u = kindP (rv u) by rw [HK.out, if_neg (by omega)])
    clear h1 h4
    go_enter Tryz.func136, Tryz.ntmps136
    go_wp2_with fail
    refine HR.out.mono ?_
    rintro e w' ⟨rfl, rfl⟩
    go_wp2_with fail
    refine (rkind_any _ _).mono ?_
    rintro e w' ⟨rfl, rfl⟩
    go_wp2
    go_ret
    exact ⟨by rw [HF.out]; rfl, rfl⟩
end Go.Proofs.YtfinpehbpcckaaaGreatDoor
end
