/- charset.Valid, and what it says of repair. -/
import Derived.Test.YtnpgnohlcphfnaaGreatDoorM15
import Derived.Test.YtnpgnohlcphfnaaGreatDoorRuneR
import Derived.Test.YtnpgnohlcphfnaaGreatDoorM17
namespace Go.Proofs.YtnpgnohlcphfnaaGreatDoor
open Go.RowKit
set_option linter.unusedVariables false

theorem decodeL_uN (l : List UInt8) : Lib.decodeL l = uN l := by
  have h := uN_at l 0
  rw [List.drop_zero] at h
  exact h
theorem firstR_enc {l : List UInt8} {a m : Nat} (h : firstR l = (a, m, true)) : Lib.encodeRune (a : Int) = l.take m := by
  have key : ∀ k, okR l k = true → Lib.encodeRune (((nR l k).toNat : Nat) : Int) = l.take k := fun k hk => by
    unfold okR at hk
    rw [Bool.and_eq_true, Bool.and_eq_true] at hk
    have h1 := of_decide_eq_true hk.1.2
    have h0 : 0 ≤ nR l k := h1.1
    rw [Int.toNat_of_nonneg h0]
    exact of_decide_eq_true hk.2
  unfold firstR at h
  split at h
  · rename_i e; injection h with h1 h2; injection h2 with h2 h3; subst h1; subst h2; exact key 1 e
  · split at h
    · rename_i e; injection h with h1 h2; injection h2 with h2 h3; subst h1; subst h2; exact key 2 e
    · split at h
      · rename_i e; injection h with h1 h2; injection h2 with h2 h3; subst h1; subst h2; exact key 3 e
      · split at h
        · rename_i e; injection h with h1 h2; injection h2 with h2 h3; subst h1; subst h2; exact key 4 e
        · injection h with h1 h2; injection h2 with h2 h3; cases h3
theorem valid_repairF : ∀ (f : Nat) (l : List UInt8), l.length ≤ f → Lib.validD l = true → repairF f l = l
  | 0, l, h, _ => by
    have : l = [] := List.eq_nil_of_length_eq_zero (by omega)
    subst this
    rfl
  | f + 1, l, h, hv => by
    by_cases hne : l = []
    · subst hne; rfl
    · rw [Lib.validD_step l hne, decodeL_uN] at hv
      by_cases hb : (uN l).1 = 65533 ∧ (uN l).2 = 1
      · rw [if_pos hb] at hv; cases hv
      · rw [if_neg hb] at hv
        have h1 := firstR_eq hne
        rw [decide_eq_false hb] at h1
        have h2 := firstR_enc h1
        have h3 := uN_pos l hne
        have ih := valid_repairF f (l.drop (uN l).2) (by rw [List.length_drop]; omega) hv
        show (if l = [] then [] else Lib.encodeRune (uN l).1 ++ repairF f (l.drop (uN l).2)) = l
        rw [if_neg hne, ih, h2, List.take_append_drop]
theorem valid_repair {l : List UInt8} (h : Lib.validD l = true) : repairP l = l := valid_repairF l.length l (Nat.le_refl _) h
theorem validLib (l : List UInt8) (W : World) (hl : l.length ≤ 9223372036854775807) (hT : Tabs W) : Calls Tryz.prog 81 #[.string (ba l)] W fun e W' => e = .returned (.bool (Lib.validD l)) ∧ Below W.heap.size W W' := by
  have h := Tryz.utf8_ValidString (ba l) W (by rw [ba_size]; exact hl) hT.utf
  have e : (ba l).data.toList = l := by unfold ba; rfl
  rw [e] at h
  exact h
theorem valid_any (l : List UInt8) (w : World) (hl : l.length ≤ 9223372036854775807) (hT : Tabs w) : Calls Tryz.prog 51 #[.string (ba l)] w fun e w' => e = .returned (.bool (Lib.validD l)) ∧ Below w.heap.size w w' := by
  have HV := Lib.hid (validLib l w hl hT)
  obtain ⟨b, hb⟩ : ∃ b, Lib.validD l = b := ⟨_, rfl⟩
  rw [hb] at HV ⊢
  obtain ⟨s, hs⟩ : ∃ s, ba l = s := ⟨_, rfl⟩
  rw [hs] at HV ⊢
  clear hs hb hT
  go_enter Tryz.func51, Tryz.ntmps51
  go_wp2_with fail
  refine HV.out.mono ?_
  rintro e w' ⟨rfl, hb⟩
  go_wp2
  go_ret
  exact ⟨rfl, hb⟩
def namedB (l : List UInt8) : Bool := !l.contains 46 && (isWord l && decide (smallP l = l))
def NdRel (l : List UInt8) (k : Nat) : Prop := (46 : UInt8) ∉ l.take k
theorem nd_step {l : List UInt8} {k : Nat} (hk : k < l.length) (h : NdRel l k) (hne : l[k] ≠ 46) : NdRel l (k + 1) := by
  unfold NdRel
  rw [List.take_succ_eq_append_getElem hk, List.mem_append]
  rintro (h1 | h1)
  · exact h h1
  · exact hne (List.mem_singleton.1 h1).symm
theorem nd_hit {l : List UInt8} {k : Nat} (hk : k < l.length) (h : l[k] = 46) : namedB l = false := by
  unfold namedB
  have : l.contains 46 = true := List.contains_iff_mem.2 (h ▸ List.getElem_mem hk)
  rw [this]
  rfl
theorem nd_end {l : List UInt8} {k : Nat} (hk : l.length ≤ k) (h : NdRel l k) : namedB l = (isWord l && decide (smallP l = l)) := by
  unfold NdRel at h
  rw [List.take_of_length_le hk] at h
  unfold namedB
  have : l.contains 46 = false := by
    rw [← Bool.not_eq_true]
    intro e
    exact h (List.contains_iff_mem.1 e)
  rw [this]
  rfl
theorem ba_eq_iff (a b : List UInt8) : ((ba a).toList == (ba b).toList) = decide (a = b) := by
  rw [ba_toList, ba_toList, Bool.eq_iff_iff]
  simp
set_option maxRecDepth 100000 in
set_option maxHeartbeats 4000000 in
theorem named_any (l : List UInt8) (w : World) (hl : l.length ≤ 1000000000) :
    Calls Tryz.prog 50 #[.string (ba l)] w fun e w' => e = .returned (.bool (namedB l)) ∧ Below w.heap.size w w' := by
  have HW := Lib.hid (fun W => rword_any l W hl)
  have HSM := Lib.hid (fun W => rsmall_any l W hl)
  have HQ := Lib.hid (ba_eq_iff (smallP l) l)
  unfold StrB at HSM
  obtain ⟨n, hn⟩ : ∃ n, l.length = n := ⟨_, rfl⟩
  have HL := Lib.hid hn
  obtain ⟨s, hs⟩ : ∃ s, ba l = s := ⟨_, rfl⟩
  have HS := Lib.hid hs
  have HZ := Lib.hid (show s.size = n by rw [← hs, ba_size, hn])
  have hsz : (s.size : Int) = n := by rw [HZ.out]
  rw [hs]
  rw [hn] at hl
  clear hs hn
  rw [HS.out] at HW HSM HQ
  go_enter Tryz.func50, Tryz.ntmps50
  go_wp2
  go_loop [3] (fun i => ∃ k : Nat, k ≤ n ∧ i = .int .i64 (k : Int) ∧ Hid (NdRel l k)) (fun i => n - (intOf i).toNat)
  case atStart => exact ⟨0, Nat.zero_le _, rfl, Lib.hid (by unfold NdRel; simp)⟩
  case round =>
    obtain ⟨k, hk, rfl, HR⟩ := hrel
    by_cases hlt : k < n
    · have hk2 : (k : Int) < (n : Int) := by omega
      have hk0 : (0 : Int) ≤ (k : Int) := by omega
      have hks : k < s.size := by rw [HZ.out]; omega
      have hkl : k < l.length := by rw [HL.out]; omega
      have hget : s[k] = l[k] := by
        have h := HS.out
        subst h
        rfl
      have HST := Lib.hid (nd_step hkl HR.out)
      have HIT := Lib.hid (nd_hit hkl)
      obtain ⟨c, hc⟩ : ∃ c, l[k] = c := ⟨_, rfl⟩
      rw [hc] at hget HST HIT
      obtain ⟨x, hx⟩ : ∃ x : Int, (c.toNat : Int) = x := ⟨_, rfl⟩
      have hgi : ((s[k]).toNat : Int) = x := by rw [hget]; exact hx
      have HX := Lib.hid hx
      have hx0 : 0 ≤ x := by omega
      have hx1 : x ≤ 255 := by have := c.toNat_lt; omega
      clear hc hkl hget hx
      by_cases e1 : x = 46
      · have g1 : (x == 46) = true := by simpa using e1
        have HV := Lib.hid (HIT.out (u8_int_eq'.1 (by rw [HX.out]; exact e1)))
        clear e1
        go_wp2
        go_ret
        exact ⟨by rw [HV.out]; rfl, Below.refl _ _⟩
      · have g1 : (x == 46) = false := by simpa using e1
        have HV := Lib.hid (HST.out fun h => e1 (by rw [← HX.out, h]; rfl))
        clear e1
        go_wp2
        go_round
        case rel => exact ⟨k + 1, by omega, by go_num, HV⟩
        case measure => simp [intOf] <;> omega
    · obtain rfl : n = k := by omega
      have HV := Lib.hid (nd_end (by rw [HL.out]; exact Nat.le_refl _) HR.out)
      obtain ⟨b1, hb1⟩ : ∃ b, isWord l = b := ⟨_, rfl⟩
      obtain ⟨b2, hb2⟩ : ∃ b, decide (smallP l = l) = b := ⟨_, rfl⟩
      rw [hb1] at HW HV
      rw [hb2] at HQ HV
      obtain ⟨q, hq⟩ : ∃ q, ba (smallP l) = q := ⟨_, rfl⟩
      simp only [hq] at HSM HQ
      have HQ2 := HQ.out
      clear hb1 hb2 hq HR
      cases b1
      · go_wp2_with fail
        refine (HW.out _).mono ?_
        rintro e w' ⟨rfl, hw⟩
        have hw2 := hw.symm
        subst hw2
        clear hw
        go_wp2
        go_ret
        exact ⟨by rw [HV.out]; rfl, Below.refl _ _⟩
      · go_wp2_with fail
        refine (HW.out _).mono ?_
        rintro e w' ⟨rfl, hw⟩
        have hw2 := hw.symm
        subst hw2
        clear hw
        go_wp2_with fail
        refine (HSM.out _).mono ?_
        rintro e w' ⟨rfl, hb⟩
        go_wp2
        go_ret
        exact ⟨by rw [HV.out]; rfl, hb⟩
end Go.Proofs.YtnpgnohlcphfnaaGreatDoor
