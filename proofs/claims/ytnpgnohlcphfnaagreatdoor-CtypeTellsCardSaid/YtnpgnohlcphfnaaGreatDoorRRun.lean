/- Reference 4: the contract of Runes. -/
import Derived.Test.YtnpgnohlcphfnaaGreatDoorRFst
import Derived.Test.YtnpgnohlcphfnaaGreatDoorM06
namespace Go.Proofs.YtnpgnohlcphfnaaGreatDoor
open Go.RowKit
set_option linter.unusedVariables false

set_option maxRecDepth 100000 in
set_option maxHeartbeats 4000000 in
theorem rrunes_any (l : List UInt8) (w : World) (hl : l.length ≤ 1000000000) :
    Calls Tryz.prog 183 #[.string (ba l)] w (IntsPost w (runesP l)) := by
  have HFI := Lib.hid (fun k W (hk : k < l.length) => rfirst_any (l.drop k) W (by rw [List.length_drop]; omega) (by intro e; have := congrArg List.length e; rw [List.length_drop] at this; simp at this; omega))
  unfold FirstPost at HFI
  obtain ⟨n, hn⟩ : ∃ n, l.length = n := ⟨_, rfl⟩
  have HL := Lib.hid hn
  obtain ⟨s, hs⟩ : ∃ s, ba l = s := ⟨_, rfl⟩
  have HS := Lib.hid hs
  have HZ := Lib.hid (show s.size = n by rw [← hs, ba_size, hn])
  have hsz : (s.size : Int) = n := by rw [HZ.out]
  rw [hs]
  rw [hn] at hl
  clear hs hn
  go_enter Tryz.func183, Tryz.ntmps183
  go_wp2
  go_loopw [3, 4, 5, 6, 7] (fun v i p q r wr => ∃ (k : Nat) (acc : List Int) (x y z : Value), p = x ∧ q = y ∧ r = z ∧ k ≤ n ∧ i = .int .i64 (k : Int) ∧ Hid (RuRel w l (l.drop k) acc v wr)) (fun _ i _ _ _ _ => n - (intOf i).toNat)
  case atStart => exact ⟨0, [], _, _, _, rfl, rfl, rfl, Nat.zero_le _, rfl, Lib.hid ⟨OwnInts.nil_ _ _, Below.refl _ _, rfl, by simp⟩⟩
  case round =>
    obtain ⟨k, acc, x0, y0, z0, rfl, rfl, rfl, hk, rfl, HR⟩ := hrel
    have hsz := HR.out.bel.size
    by_cases hlt : k < n
    · have hk2 : (k : Int) < (n : Int) := by omega
      have hk0 : (0 : Int) ≤ (k : Int) := by omega
      have hkl : k < l.length := by rw [HL.out]; exact hlt
      have hne : l.drop k ≠ [] := by intro e; have := congrArg List.length e; rw [List.length_drop] at this; simp at this; omega
      have HSX := Lib.hid (show s.extract k s.size = ba (l.drop k) by
        have h := HS.out
        have h2 := HL.out
        subst h
        unfold ba
        have hz : (ByteArray.mk l.toArray).size = l.length := rfl
        apply ByteArray.ext
        simp
        rw [List.take_of_length_le (by rw [List.length_drop]; omega)])
      have HF := Lib.hid (fun W => HFI.out k W hkl)
      have HEQ := Lib.hid (runesP_cons hne)
      have hup := uN_pos (l.drop k) hne
      have hbd := runesF_bd 1 (l.drop k) ((uN (l.drop k)).1 : Int) (by unfold runesF; simp [hne])
      rw [firstR_eq hne] at HF
      have HDD := Lib.hid (fun m => show (l.drop k).drop m = l.drop (k + m) from List.drop_drop)
      obtain ⟨ob, hob⟩ : ∃ b, (!decide ((uN (l.drop k)).1 = 65533 ∧ (uN (l.drop k)).2 = 1)) = b := ⟨_, rfl⟩
      simp only [hob] at HF
      obtain ⟨⟨x, m⟩, hf⟩ : ∃ v, uN (l.drop k) = v := ⟨_, rfl⟩
      rw [hf] at HEQ hup hbd
      simp only [hf] at HF
      obtain ⟨xi, hxi⟩ : ∃ xi : Int, (x : Int) = xi := ⟨_, rfl⟩
      simp only [hxi] at HF HEQ hbd
      rw [HDD.out m] at HEQ
      rw [← HSX.out] at HF
      have hmn : k + m ≤ n := by
        have h1 := hup.2.1
        rw [List.length_drop, HL.out] at h1
        have h1' : m ≤ n - k := h1
        omega
      have hm1 : 1 ≤ m := hup.1
      have HAL := Lib.hid (show acc.length < 1099511627776 by have := HR.out.len; rw [HL.out] at this; omega)
      have HLE := Lib.hid (show acc.length + 1 + (l.drop (k + m)).length ≤ l.length by
        have h1 := HR.out.len
        rw [List.length_drop] at h1 ⊢
        rw [HL.out] at h1 ⊢
        omega)
      have HBD := Lib.hid hbd
      clear hf hob hup hbd hxi hne hkl HSX
      go_wp2_with fail
      refine (HF.out _).mono ?_
      rintro e w1 ⟨rfl, hb1⟩
      have HB1 := Lib.hid hb1
      have hsz1 := hb1.size
      clear hb1
      have HOWN := Lib.hid (HR.out.own.below' HB1.out)
      have hB : w.heap.size ≤ w1.heap.size := by omega
      have HYB := Lib.hid (show -9223372036854775808 ≤ xi ∧ xi ≤ 9223372036854775807 by have := HBD.out; omega)
      go_wp2_with (at_builtin; go_must (refine wpList_push HOWN.out hB HYB.out HAL.out rfl (.tmp 20) (.tmp 22) 41 1 rfl Tryz.underlying41 rfl rfl ?_); intro v2 w2 h1 h2 h3; (have H1 := Lib.hid h1; have H2 := Lib.hid h2; clear h1 h2 h3))
      go_roundw
      case rel =>
        refine ⟨k + m, acc ++ [xi], _, _, _, rfl, rfl, rfl, hmn, by go_num, Lib.hid ⟨H1.out, (HR.out.bel.trans (HB1.out.mono hsz)).grown H2.out hB fun g e => HOWN.out.base g e, ?_, ?_⟩⟩
        · rw [List.append_assoc, ← HR.out.eq, HEQ.out]; rfl
        · rw [List.length_append]
          exact HLE.out
      case measure => simp [intOf] <;> omega
    · obtain rfl : n = k := by omega
      have HEN := Lib.hid (show acc = runesP l by
        have h := HR.out.eq
        rw [List.drop_eq_nil_of_le (by rw [HL.out]; exact Nat.le_refl _), runesP_nil, List.append_nil] at h
        exact h)
      go_wp2
      go_ret
      refine ⟨_, rfl, ?_, HR.out.bel⟩
      rw [← HEN.out]
      exact HR.out.own
end Go.Proofs.YtnpgnohlcphfnaaGreatDoor
