/- The reference of layer 12: the contract of Text. -/
import Derived.Test.YtnpgnohlcphfnaaGreatDoorM03
namespace Go.Proofs.YtnpgnohlcphfnaaGreatDoor
open Go.RowKit
set_option linter.unusedVariables false

theorem join_step' (ts : List Tok) (k : Nat) (hk : k < ts.length) : joinP (ts.take (k + 1)) = joinP (ts.take k) ++ ts[k].text := by
  rw [List.take_succ_eq_append_getElem hk]
  unfold joinP
  rw [List.flatMap_append]
  simp
theorem join_le' (ts : List Tok) (k : Nat) : (joinP (ts.take k)).length ≤ (joinP ts).length := by
  have h : joinP ts = joinP (ts.take k) ++ joinP (ts.drop k) := by
    unfold joinP
    rw [← List.flatMap_append, List.take_append_drop]
  rw [h, List.length_append]
  omega
set_option maxRecDepth 100000 in
set_option maxHeartbeats 4000000 in
theorem rtext_any (ts : List Tok) (A : Option Addr) (n c : Nat) (w : World) (hT : Toks w w.heap.size A n ts) (hn : n ≤ 1000000000) (hj : (joinP ts).length ≤ 1000000000) :
    Calls Tryz.prog 36 #[.slice A n c] w fun e w' => e = .returned (.string (ba (joinP ts))) ∧ w' = w := by
  have HT := Lib.hid hT
  obtain rfl : n = ts.length := hT.1
  obtain ⟨n, hn2⟩ : ∃ n, ts.length = n := ⟨_, rfl⟩
  have HN := Lib.hid hn2
  rw [hn2] at hn ⊢
  have HJ := Lib.hid hj
  clear hT hn2 hj
  go_enter Tryz.func36, Tryz.ntmps36
  go_wp2
  go_loop [3, 4] (fun o i => ∃ (k : Nat) (a : List UInt8), k ≤ n ∧ i = .int .i64 (k : Int) ∧ o = .string (ba a) ∧ Hid (a = joinP (ts.take k))) (fun _ i => n - (intOf i).toNat)
  case atStart => exact ⟨0, [], Nat.zero_le _, rfl, rfl, Lib.hid rfl⟩
  case round =>
    obtain ⟨k, a, hk, rfl, rfl, HA⟩ := hrel
    by_cases hlt : k < n
    · have hk2 : (k : Int) < n := by omega
      have hkl : k < ts.length := by rw [HN.out]; exact hlt
      obtain ⟨ad, rfl, hbl, c0, c1, c2⟩ := HT.out.2 k hkl
      have HP := Lib.hid (join_step' ts k hkl)
      have hle := join_le' ts (k + 1)
      rw [HP.out, ← HA.out] at hle
      obtain ⟨t, ht⟩ : ∃ t, ts[k].text = t := ⟨_, rfl⟩
      rw [ht, ← HA.out] at HP
      rw [ht] at c1 hle
      have hap := ba_append a t
      have hlen : ¬ 9223372036854775807 < (ba a).size + (ba t).size := by
        rw [ba_size, ba_size]
        have := HJ.out
        rw [List.length_append] at hle
        omega
      clear ht c2 c0 hle
      go_wp2
      go_round
      case rel => exact ⟨k + 1, a ++ t, by omega, by go_num, rfl, Lib.hid HP.out.symm⟩
      case measure => simp [intOf] <;> omega
    · obtain rfl : k = n := by omega
      have HV := Lib.hid (show a = joinP ts by
        have := HA.out
        rw [List.take_of_length_le (by rw [HN.out]; exact Nat.le_refl _)] at this
        exact this)
      go_wp2
      go_ret
      exact ⟨by rw [HV.out]; rfl, rfl⟩
end Go.Proofs.YtnpgnohlcphfnaaGreatDoor
