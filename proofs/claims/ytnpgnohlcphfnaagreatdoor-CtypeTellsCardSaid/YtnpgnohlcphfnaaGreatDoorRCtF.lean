/- Reference 12: the contract of Open. -/
import Derived.Test.YtnpgnohlcphfnaaGreatDoorM08
import Derived.Test.YtnpgnohlcphfnaaGreatDoorM15
import Derived.Test.YtnpgnohlcphfnaaGreatDoorM03
namespace Go.Proofs.YtnpgnohlcphfnaaGreatDoor
open Go.RowKit
set_option linter.unusedVariables false

/-- The state of Open's loop. -/
structure ROpRel (w : World) (l : List UInt8) (k : Nat) (acc : List UInt8) (wr : World) : Prop where
  eq : acc ++ openP (l.drop k) = openP l
  len : acc.length ≤ k
  bel : Below w.heap.size w wr
set_option maxRecDepth 100000 in
set_option maxHeartbeats 4000000 in
theorem ropen_any (l : List UInt8) (w : World) (hl : l.length ≤ 1000000000) :
    Calls Tryz.prog 115 #[.string (ba l)] w (StrB w (openP l)) := by
  have HEX := Lib.hid (fun i j => ba_cut l i j)
  obtain ⟨n, hn⟩ : ∃ n, l.length = n := ⟨_, rfl⟩
  have HL := Lib.hid hn
  obtain ⟨s, hs⟩ : ∃ s, ba l = s := ⟨_, rfl⟩
  have HS := Lib.hid hs
  have HZ := Lib.hid (show s.size = n by rw [← hs, ba_size, hn])
  have hsz : (s.size : Int) = n := by rw [HZ.out]
  rw [hs]
  rw [hn] at hl
  clear hs hn
  rw [HS.out] at HEX
  go_enter Tryz.func115, Tryz.ntmps115
  go_wp2
  go_loopw [3, 4] (fun o i wr => ∃ (k : Nat) (acc : List UInt8), k ≤ n ∧ i = .int .i64 (k : Int) ∧ o = .string (ba acc) ∧ Hid (ROpRel w l k acc wr)) (fun _ i _ => n - (intOf i).toNat)
  case atStart => exact ⟨0, [], Nat.zero_le _, rfl, rfl, Lib.hid ⟨rfl, Nat.le_refl _, Below.refl _ _⟩⟩
  case round =>
    obtain ⟨k, acc, hk, rfl, rfl, HR⟩ := hrel
    have hsz2 := HR.out.bel.size
    have HEQ0 := Lib.hid HR.out.eq
    have HAL := Lib.hid HR.out.len
    have HBE := Lib.hid HR.out.bel
    clear HR
    by_cases hlt : k < n
    · have hk2 : (k : Int) < (n : Int) := by omega
      have hk0 : (0 : Int) ≤ (k : Int) := by omega
      have hks : k < s.size := by rw [HZ.out]; omega
      have hkl : k < l.length := by rw [HL.out]; omega
      have hget : s[k] = l[k] := by
        have h := HS.out
        subst h
        rfl
      have heq := HEQ0.out
      rw [List.drop_eq_getElem_cons hkl] at heq
      have HEQ := Lib.hid heq
      have HONE := Lib.hid (show (l.take (k + 1)).drop k = [l[k]] by
        rw [List.take_succ_eq_append_getElem hkl, List.drop_left' (by rw [List.length_take]; omega)])
      clear heq
      obtain ⟨c, hc⟩ : ∃ c, l[k] = c := ⟨_, rfl⟩
      rw [hc] at hget HEQ HONE
      obtain ⟨x, hx⟩ : ∃ x : Int, (c.toNat : Int) = x := ⟨_, rfl⟩
      have hgi : ((s[k]).toNat : Int) = x := by rw [hget]; exact hx
      have HX := Lib.hid hx
      have hx0 : 0 ≤ x := by omega
      have hx1 : x ≤ 255 := by have := c.toNat_lt; omega
      clear hc hkl hget hx
      have HRL := Lib.hid (show (l.drop (k + 1)).length = n - (k + 1) by rw [List.length_drop, HL.out])
      have hext1 := HEX.out k (k + 1)
      rw [HONE.out] at hext1
      have hap := ba_append acc [c]
      have hln : ¬ 9223372036854775807 < (ba acc).size + (ba [c]).size := by rw [ba_size, ba_size]; have := HAL.out; simp; omega
      by_cases e1 : x = 37 ∧ k + 2 < n
      · have g1 : (x == 37) = true := by simpa using e1.1
        have hc2 : (k : Int) + 2 < (n : Int) := by omega
        have hc3 : (k : Int) + 3 ≤ (n : Int) := by omega
        have HC := Lib.hid (show c = 37 from u8_int_eq.1 (by rw [HX.out]; exact e1.1))
        have hext := HEX.out (k + 1) (k + 3)
        have e2 : (l.take (k + 3)).drop (k + 1) = (l.drop (k + 1)).take 2 := by rw [List.drop_take]; congr 1; omega
        rw [e2] at hext
        have HUL := Lib.hid (show ((l.drop (k + 1)).take 2).length = 2 by rw [List.length_take, HRL.out]; omega)
        have HUN := Lib.hid (fun z => openP_take (l.drop (k + 1)) z (by rw [HRL.out]; omega))
        have HSK := Lib.hid (fun h => openP_skip c (l.drop (k + 1)) (.inr (.inr h)))
        obtain ⟨t, ht⟩ : ∃ t, (l.drop (k + 1)).take 2 = t := ⟨_, rfl⟩
        rw [ht] at hext HUL HUN HSK
        have HUH := Lib.hid (runhex_any t wr (by rw [HUL.out]; omega))
        have HZL := Lib.hid (unhex_len t)
        unfold UnhexPost at HUH
        have HEX2 := Lib.hid hext
        clear e1 e2 ht hext
        cases hu : unhexP t with
        | none =>
          rw [hu] at HUH HSK
          have HE := Lib.hid (show (acc ++ [c]) ++ openP (l.drop (k + 1)) = openP l by
            have := HEQ.out
            rw [HSK.out rfl] at this
            rw [List.append_assoc]
            exact this)
          clear hu
          go_wp2_with fail
          rw [HEX2.out]
          refine HUH.out.mono ?_
          rintro e w2 ⟨rfl, hb2⟩
          have HB2 := Lib.hid hb2
          clear hb2
          go_wp2
          go_roundw
          case rel => exact ⟨k + 1, acc ++ [c], by omega, by go_num, rfl, Lib.hid ⟨HE.out, by rw [List.length_append]; have := HAL.out; show acc.length + 1 ≤ k + 1; omega, HBE.out.trans (HB2.out.mono hsz2)⟩⟩
          case measure => simp [intOf] <;> omega
        | some z =>
          rw [hu] at HUH
          have HE := Lib.hid (show (acc ++ z) ++ openP (l.drop (k + 1 + 2)) = openP l by
            have := HEQ.out
            rw [HC.out, HUN.out z hu, List.drop_drop] at this
            rw [List.append_assoc]
            exact this)
          have HZ1 := Lib.hid (show z.length = 1 by have := HZL.out z hu; have := HUL.out; omega)
          have hap2 := ba_append acc z
          have hln2 : ¬ 9223372036854775807 < (ba acc).size + (ba z).size := by rw [ba_size, ba_size]; have := HAL.out; have := HZ1.out; omega
          clear hu
          go_wp2_with fail
          rw [HEX2.out]
          refine HUH.out.mono ?_
          rintro e w2 ⟨rfl, hb2⟩
          have HB2 := Lib.hid hb2
          clear hb2
          go_wp2
          go_roundw
          case rel => exact ⟨k + 1 + 2, acc ++ z, by omega, by go_num, rfl, Lib.hid ⟨HE.out, by rw [List.length_append]; have := HAL.out; have := HZ1.out; omega, HBE.out.trans (HB2.out.mono hsz2)⟩⟩
          case measure => simp [intOf] <;> omega
      · have HE := Lib.hid (show (acc ++ [c]) ++ openP (l.drop (k + 1)) = openP l by
          have := HEQ.out
          rw [openP_skip c (l.drop (k + 1)) (by
            by_cases hx9 : x = 37
            · exact .inr (.inl (by rw [HRL.out]; omega))
            · exact .inl fun h => hx9 (by rw [← HX.out, h]; rfl))] at this
          rw [List.append_assoc]
          exact this)
        have g1 : (x == 37) = false ∨ ((x == 37) = true ∧ ¬ (k : Int) + 2 < (n : Int)) := by
          by_cases hx9 : x = 37
          · exact .inr ⟨by simpa using hx9, by omega⟩
          · exact .inl (by simpa using hx9)
        clear e1
        rcases g1 with g1 | ⟨g1, g2⟩
        all_goals
          go_wp2
          go_roundw
          case rel => exact ⟨k + 1, acc ++ [c], by omega, by go_num, rfl, Lib.hid ⟨HE.out, by rw [List.length_append]; have := HAL.out; show acc.length + 1 ≤ k + 1; omega, HBE.out⟩⟩
          case measure => simp [intOf] <;> omega
    · obtain rfl : k = n := by omega
      have HF := Lib.hid (show acc = openP l by
        have := HEQ0.out
        rw [List.drop_of_length_le (by rw [HL.out]; exact Nat.le_refl _)] at this
        have h0 : openP [] = [] := rfl
        rw [h0, List.append_nil] at this
        exact this)
      go_wp2
      go_ret
      exact str_fin (by rw [HF.out]) HBE.out
end Go.Proofs.YtnpgnohlcphfnaaGreatDoor
