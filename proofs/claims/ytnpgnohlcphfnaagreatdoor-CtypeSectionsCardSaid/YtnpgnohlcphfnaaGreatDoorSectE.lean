/- The law's escaped, and num.Text of small numbers. -/
import Derived.Test.YtnpgnohlcphfnaaGreatDoorSectP
import Derived.Test.YtnpgnohlcphfnaaGreatDoorM17
import Derived.Test.YtnpgnohlcphfnaaGreatDoorShelf
namespace Go.Proofs.YtnpgnohlcphfnaaGreatDoor
open Go.RowKit
set_option linter.unusedVariables false

theorem encH_snoc {l : List UInt8} {k : Nat} (hk : k < l.length) : encH (l.take (k + 1)) = encH (l.take k) ++ [37] ++ hexP [l[k]] := by
  rw [List.take_succ_eq_append_getElem hk]
  unfold encH hexP
  rw [List.flatMap_append]
  simp
theorem encH_len (l : List UInt8) : (encH l).length = 3 * l.length := by
  induction l with
  | nil => rfl
  | cons c r ih =>
    show ([37, hexD (c.toNat / 16), hexD (c.toNat % 16)] ++ encH r).length = _
    rw [List.length_append, ih]
    simp
    omega
structure EsRel (w : World) (l : List UInt8) (k : Nat) (o : ByteArray) (wr : World) : Prop where
  out : o = ba (encH (l.take k))
  bel : Below w.heap.size w wr
theorem es_size {w wr : World} {l : List UInt8} {k : Nat} {o : ByteArray} (h : EsRel w l k o wr) : o.size ≤ 3 * k := by
  rw [h.out, ba_size, encH_len, List.length_take]
  omega
theorem es_step {w wr : World} {l : List UInt8} {k : Nat} {o : ByteArray} (hk : k < l.length) (h : EsRel w l k o wr) : ∀ W, Below w.heap.size w W → EsRel w l (k + 1) (o ++ ⟨#[37]⟩ ++ ba (hexP [l[k]])) W := fun W hW => ⟨by
  rw [h.out, encH_snoc hk, ← ba_append, ← ba_append]
  rfl, hW⟩
set_option maxRecDepth 100000 in
set_option maxHeartbeats 4000000 in
theorem escaped_any (l : List UInt8) (w : World) (hl : l.length ≤ 1000) :
    Calls Tryz.prog 23 #[.string (ba l)] w (StrB w (encH l)) := by
  rw [show StrB w (encH l) = fun e w' => e = .returned (.string (ba (encH l))) ∧ Below w.heap.size w w' from rfl]
  obtain ⟨n, hn⟩ : ∃ n, l.length = n := ⟨_, rfl⟩
  have HL := Lib.hid hn
  obtain ⟨s, hs⟩ : ∃ s, ba l = s := ⟨_, rfl⟩
  have HS := Lib.hid hs
  have HZ := Lib.hid (show s.size = n by rw [← hs, ba_size, hn])
  have hsz : (s.size : Int) = n := by rw [HZ.out]
  rw [hs]
  rw [hn] at hl
  clear hs hn
  go_enter Tryz.func23, Tryz.ntmps23
  go_wp2
  go_loopw [3, 4] (fun o i wr => ∃ (k : Nat) (q : ByteArray), k ≤ n ∧ o = .string q ∧ i = .int .i64 (k : Int) ∧ Hid (EsRel w l k q wr)) (fun _ i _ => n - (intOf i).toNat)
  case atStart => exact ⟨0, _, Nat.zero_le _, rfl, rfl, Lib.hid ⟨rfl, Below.refl _ _⟩⟩
  case round =>
    obtain ⟨k, q, hk, rfl, rfl, HR⟩ := hrel
    have hqs := es_size HR.out
    have HBE := Lib.hid HR.out.bel
    by_cases hlt : k < n
    · have hk2 : (k : Int) < (n : Int) := by omega
      have hk0 : (0 : Int) ≤ (k : Int) := by omega
      have hks : k < s.size := by rw [HZ.out]; omega
      have hkl : k < l.length := by rw [HL.out]; omega
      have hget : s[k] = l[k] := by
        have h := HS.out
        subst h
        rfl
      have HST := Lib.hid (es_step hkl HR.out)
      have hk1 : ((k : Int) + 1) ≤ (n : Int) := by omega
      have HSL := Lib.hid (show s.extract k (k + 1) = ba [l[k]] by
        have h := HS.out
        subst h
        unfold ba
        apply ByteArray.ext
        simp
        rw [List.drop_eq_getElem_cons hkl]
        rfl)
      have HHX := Lib.hid (fun W => hex_any [l[k]] W (by simp))
      rw [← HSL.out] at HHX
      have hxl : (hexP [l[k]]).length = 2 := rfl
      obtain ⟨hx, hhx⟩ : ∃ x, ba (hexP [l[k]]) = x := ⟨_, rfl⟩
      have hxs : hx.size = 2 := by rw [← hhx, ba_size, hxl]
      unfold StrB at HHX
      simp only [hhx] at HHX
      rw [hhx] at HST
      clear hkl hget hhx hxl HSL HR
      go_wp2_with fail
      refine (HHX.out _).mono ?_
      rintro e w' ⟨rfl, hb⟩
      have HNX := Lib.hid (HST.out w' (HBE.out.trans (hb.mono HBE.out.size)))
      clear hb HST
      go_wp2
      go_roundw
      case rel => exact ⟨k + 1, _, by omega, rfl, by go_num, HNX⟩
      case measure => simp [intOf] <;> omega
    · obtain rfl : n = k := by omega
      have HV := Lib.hid (show q = ba (encH l) by
        have h := HR.out.out
        rw [List.take_of_length_le (by rw [HL.out]; exact Nat.le_refl _)] at h
        exact h)
      clear HR
      go_wp2
      go_ret
      exact ⟨by rw [HV.out]; rfl, HBE.out⟩
theorem digT_eq : ∀ k : Fin 11, (⟨(Lib.decDigits k.val).toArray⟩ : ByteArray) = ba (digT k.val) := by decide +kernel
theorem text_any (k : Nat) (hk : k < 11) (w : World) : Calls Tryz.prog 22 #[.int .i64 (k : Int)] w fun e w' => e = .returned (.string (ba (digT k))) ∧ w' = w := by
  have HI := Lib.hid (Tryz.strconv_Itoa_small k (by omega) w)
  rw [digT_eq ⟨k, hk⟩] at HI
  obtain ⟨q, hq⟩ : ∃ q, ba (digT k) = q := ⟨_, rfl⟩
  simp only [hq] at HI ⊢
  clear hq
  go_enter Tryz.func22, Tryz.ntmps22
  go_wp2_with fail
  refine HI.out.mono ?_
  rintro e w' ⟨rfl, rfl⟩
  go_wp2
  go_ret
  exact ⟨rfl, rfl⟩
end Go.Proofs.YtnpgnohlcphfnaaGreatDoor
