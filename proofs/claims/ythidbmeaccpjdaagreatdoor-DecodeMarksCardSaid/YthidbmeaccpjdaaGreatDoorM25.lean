/- Layer 15: the contract of digits. -/
import Derived.Test.YthidbmeaccpjdaaGreatDoorM22
namespace Go.Proofs.YthidbmeaccpjdaaGreatDoor
open Go.RowKit
set_option linter.unusedVariables false
set_option maxHeartbeats 4000000
theorem dig_index (c : UInt8) : Lib.indexByte [48, 49, 50, 51, 52, 53, 54, 55, 56, 57, 97, 98, 99, 100, 101, 102] (smallB c) = digV c := u8_all (fun c => Lib.indexByte [48, 49, 50, 51, 52, 53, 54, 55, 56, 57, 97, 98, 99, 100, 101, 102] (smallB c) = digV c) (by decide +kernel) c
theorem digitV_of {base : Nat} {c : UInt8} (h1 : 0 ≤ digV c) (h2 : digV c < (base : Int)) : digitV base c = some (digV c).toNat := by
 unfold digitV
 rw [digV_hex, if_neg (by omega)]
 dsimp only
 rw [if_pos (by omega)]
theorem digitV_no {base : Nat} {c : UInt8} (h : digV c < 0 ∨ (base : Int) ≤ digV c) : digitV base c = none := by
 unfold digitV
 rw [digV_hex]
 rcases h with h | h
 ·rw [if_pos h]
 ·have := digV_bd c
  by_cases h0 : digV c < 0
  ·rw [if_pos h0]
  ·rw [if_neg h0]
   dsimp only
   rw [if_neg (by omega)]
def DgPost (w : World) (o : Option Nat) (e : Ending) (w' : World) : Prop := ∃ v : Int, e = .returned (.tuple #[.int .i64 v, .bool o.isSome]) ∧ (∀ n, o = some n → v = (n : Int)) ∧ Below w.heap.size w w'
theorem dg_no {w w' : World} {o : Option Nat} {v : Int} (h : o = none) (hb : Below w.heap.size w w') : DgPost w o (.returned (.tuple #[.int .i64 v, .bool false])) w' := by
 subst h
 exact ⟨v, rfl, (fun n h => by cases h), hb⟩
theorem dg_yes {w w' : World} {o : Option Nat} {v : Int} {n : Nat} (h : o = some n) (hv : v = (n : Int)) (hb : Below w.heap.size w w') : DgPost w o (.returned (.tuple #[.int .i64 v, .bool true])) w' := by
 subst h
 exact ⟨v, rfl, (fun m h => by injection h with h; subst h; exact hv), hb⟩
theorem numG_cons {base n : Nat} {c : UInt8} {r : List UInt8} : numG base n (c :: r) = match digitV base c with
  | some d => numG base (n * base + d) r
  | none => none := rfl
structure DgRel (l : List UInt8) (base k : Nat) (v : Int) : Prop where
 ex : ∃ n : Nat, v = (n : Int) ∧ numG base 0 l = numG base n (l.drop k) ∧ n < 16 ^ k
theorem DgRel.next {l : List UInt8} {base k : Nat} {v : Int} (h : DgRel l base k v) (hb : base ≤ 16) (hk : k < l.length) (h1 : 0 ≤ digV (l[k])) (h2 : digV (l[k]) < (base : Int)) : DgRel l base (k + 1) (v * (base : Int) + digV (l[k])) := by
 obtain ⟨n, rfl, hn, hlt⟩ := h.ex
 have hd := digitV_of h1 h2
 rw [List.drop_eq_getElem_cons hk, numG_cons, hd] at hn
 refine ⟨⟨n * base + (digV (l[k])).toNat, ?_, hn, ?_⟩⟩
 ·rw [Int.natCast_add, Int.natCast_mul, Int.toNat_of_nonneg h1]
 ·have h3 : (digV (l[k])).toNat < base := by omega
  have h4 : n * base + (digV (l[k])).toNat < (n + 1) * base := by rw [Nat.add_mul]; omega
  have h5 : (n + 1) * base ≤ 16 ^ k * 16 := Nat.mul_le_mul hlt hb
  rw [Nat.pow_succ]
  omega
theorem DgRel.stop {l : List UInt8} {base k : Nat} {v : Int} (h : DgRel l base k v) (hk : k < l.length) (hd : digV (l[k]) < 0 ∨ (base : Int) ≤ digV (l[k])) : numG base 0 l = none := by
 obtain ⟨n, rfl, hn, hlt⟩ := h.ex
 rw [hn, List.drop_eq_getElem_cons hk, numG_cons, digitV_no hd]
theorem DgRel.bound {l : List UInt8} {base k : Nat} {v : Int} (h : DgRel l base k v) (hk : k ≤ 7) : 0 ≤ v ∧ v < 268435456 := by
 obtain ⟨n, rfl, hn, hlt⟩ := h.ex
 have : 16 ^ k ≤ 16 ^ 7 := Nat.pow_le_pow_right (by decide) hk
 have h7 : (16 : Nat) ^ 7 = 268435456 := by decide
 omega
theorem DgRel.fin {l : List UInt8} {base : Nat} {v : Int} (h : DgRel l base l.length v) : ∃ n, numG base 0 l = some n ∧ v = (n : Int) := by
 obtain ⟨n, rfl, hn, hlt⟩ := h.ex
 rw [List.drop_length] at hn
 exact ⟨n, hn, rfl⟩
set_option maxRecDepth 100000 in
theorem digits_any (l : List UInt8) (base most : Nat) (w : World) (hl : l.length ≤ 100000000) (hb0 : 1 ≤ base) (hb : base ≤ 16) (hm : most ≤ 7) :
  Calls Tryz.prog 117 #[.string (ba l), .int .i64 (base : Int), .int .i64 (most : Int)] w (DgPost w (numP l base most)) := by
 have HCU := Lib.hid (show ∀ i j, (ba l).extract i j = ba ((l.take j).drop i) from fun i j => ba_cut l i j)
 have HSH := Lib.hid (show numP l base most = if l = [] ∨ most < l.length then none else numG base 0 l from rfl)
 have HR0 := Lib.hid (show DgRel l base 0 0 from ⟨⟨0, rfl, rfl, by decide⟩⟩)
 have hem : (ba l).toList.isEmpty = l.isEmpty := by rw [ba_toList]
 obtain ⟨o, ho⟩ : ∃ o, numP l base most = o := ⟨_, rfl⟩
 rw [ho] at HSH ⊢
 clear ho
 obtain ⟨n, hn⟩ : ∃ n, l.length = n := ⟨_, rfl⟩
 have HL := Lib.hid hn
 obtain ⟨s, hs⟩ : ∃ s, ba l = s := ⟨_, rfl⟩
 have HS := Lib.hid hs
 have HZ := Lib.hid (show s.size = n by rw [← hs, ba_size, hn])
 have hsz : (s.size : Int) = n := by rw [HZ.out]
 rw [hs]
 rw [hn] at hl
 clear hs hn
 simp only [HS.out] at HCU
 rw [HS.out] at hem
 have hbI : (base : Int) ≤ 16 := by omega
 have hbI0 : (1 : Int) ≤ (base : Int) := by omega
 have hmI : (most : Int) ≤ 7 := by omega
 obtain ⟨B, hB⟩ : ∃ B : Int, (base : Int) = B := ⟨_, rfl⟩
 obtain ⟨M, hM⟩ : ∃ B : Int, (most : Int) = B := ⟨_, rfl⟩
 rw [hB] at hbI hbI0
 rw [hM] at hmI
 rw [hB, hM]
 have HBB := Lib.hid hB
 have HMM := Lib.hid hM
 clear hB hM
 go_enter Tryz.func117, Tryz.ntmps117
 go_wp2
 go_loopw [8, 9, 10, 13] (fun v a b i wr => ∃ (k : Nat) (V : Int) (y z : Value), a = y ∧ b = z ∧ k ≤ n ∧ i = .int .i64 (k : Int) ∧ v = .int .i64 V ∧ Hid ((n ≤ most → DgRel l base k V) ∧ Below w.heap.size w wr)) (fun _ _ _ i _ => n - (intOf i).toNat)
 case atStart => exact ⟨0, 0, _, _, rfl, rfl, Nat.zero_le _, rfl, rfl, Lib.hid ⟨fun _ => HR0.out, Below.refl _ _⟩⟩
 case round =>
  obtain ⟨k, V, y, z, rfl, rfl, hk, rfl, rfl, HR⟩ := hrel
  have hszr := HR.out.2.size
  by_cases hlt : k < n
  ·have hk2 : (k : Int) < (n : Int) := by omega
   have hk0 : (0 : Int) ≤ (k : Int) := by omega
   have hks : k < s.size := by rw [HZ.out]; omega
   have hkl : k < l.length := by rw [HL.out]; omega
   have hget : s[k] = l[k] := by
    have h := HS.out
    subst h
    rfl
   have hk1 : (k : Int) + 1 ≤ (n : Int) := by omega
   have hkt : ((k : Int) + 1).toNat = k + 1 := by omega
   have hkb : (k : Int) ≤ 100000000 := by omega
   have hcut : s.extract k (k + 1) = ba [l[k]] := by
    rw [HCU.out, List.take_succ_eq_append_getElem hkl, List.drop_left' (by rw [List.length_take]; omega)]
   have HNX := Lib.hid (fun (hmo : n ≤ most) h1 h2 => (HR.out.1 hmo).next hb hkl h1 h2)
   have HSO := Lib.hid (fun (hmo : n ≤ most) hd => (HR.out.1 hmo).stop hkl hd)
   obtain ⟨c, hc⟩ : ∃ c, l[k] = c := ⟨_, rfl⟩
   rw [hc] at hcut
   simp only [hc] at HNX HSO
   have HXC := Lib.hid hcut
   have HSM := Lib.hid (show ∀ W, Calls Tryz.prog 115 #[.string (ba [c])] W (StrB W [smallB c]) from fun W => dcsmall_any [c] W (by simp))
   unfold StrB at HSM
   obtain ⟨Y, hY⟩ : ∃ y : Int, ((smallB c).toNat : Int) = y := ⟨_, rfl⟩
   have hgi : ∃ h : 0 < (ba [smallB c]).size, (((ba [smallB c])[0]'h).toNat : Int) = Y := ⟨by rw [ba_size]; simp, hY⟩
   have HIX := Lib.hid (show ∀ W, Calls Tryz.prog 128 #[.string ⟨#[48, 49, 50, 51, 52, 53, 54, 55, 56, 57, 97, 98, 99, 100, 101, 102]⟩, .int .u8 Y] W fun e w' => e = .returned (.int .i64 (digV c)) ∧ w' = W from fun W => by
    rw [← hY]
    refine (Tryz.strings_IndexByte _ ((smallB c).toNat : Int) W).mono ?_
    rintro e w' ⟨rfl, rfl⟩
    rw [u8_back, ← dig_index]
    exact ⟨rfl, rfl⟩)
   have hdb := digV_bd c
   obtain ⟨D, hD⟩ : ∃ D, digV c = D := ⟨_, rfl⟩
   rw [hD] at hdb
   simp only [hD] at HNX HSO HIX
   obtain ⟨T, hT⟩ : ∃ T, ba [smallB c] = T := ⟨_, rfl⟩
   simp only [hT] at HSM
   rw [hT] at hgi
   clear hc hY hD hT hcut hget hkl
   obtain ⟨hz0, hgj⟩ := hgi
   by_cases hbad : D < 0 ∨ B ≤ D
   ·have HF := Lib.hid (show o = none by
     rw [HSH.out]
     by_cases hmo : n ≤ most
     ·split
      ·rfl
      ·exact HSO.out hmo (by rw [HBB.out]; exact hbad)
     ·rw [if_pos (.inr (by rw [HL.out]; omega))])
    clear HNX HSO
    by_cases hd0 : D < 0
    ·have g1 : decide (D < 0) = true := decide_eq_true hd0
     go_wp2_with fail
     rw [HXC.out]
     refine (HSM.out _).mono ?_
     rintro e w2 ⟨rfl, hb2⟩
     have HB2 := Lib.hid (HR.out.2.trans (hb2.mono hszr))
     clear hb2
     go_wp2_with fail
     refine (HIX.out _).mono ?_
     rintro e w3 ⟨rfl, hw⟩
     have hw2 := hw.symm
     subst hw2
     clear hw
     go_wp2
     go_ret2
     exact dg_no HF.out HB2.out
    ·have g1 : decide (D < 0) = false := decide_eq_false hd0
     have g2 : B ≤ D := by omega
     have g3 : decide (B ≤ D) = true := decide_eq_true g2
     go_wp2_with fail
     rw [HXC.out]
     refine (HSM.out _).mono ?_
     rintro e w2 ⟨rfl, hb2⟩
     have HB2 := Lib.hid (HR.out.2.trans (hb2.mono hszr))
     clear hb2
     go_wp2_with fail
     refine (HIX.out _).mono ?_
     rintro e w3 ⟨rfl, hw⟩
     have hw2 := hw.symm
     subst hw2
     clear hw
     go_wp2
     go_ret2
     exact dg_no HF.out HB2.out
   ·have hd0 : 0 ≤ D := by omega
    have hdB : D < B := by omega
    have g1 : decide (D < 0) = false := decide_eq_false (by omega)
    have g3 : decide (B ≤ D) = false := decide_eq_false (by omega)
    have HNN := Lib.hid (fun hmo => HNX.out hmo hd0 (by rw [HBB.out]; exact hdB))
    rw [HBB.out] at HNN
    have hVb := fun hmo => (HR.out.1 hmo).bound (by omega)
    clear HNX HSO hbad
    by_cases hmo : n ≤ most
    ·obtain ⟨v0, v1⟩ := hVb hmo
     have hm1 : 0 ≤ V * B := Int.mul_nonneg v0 (by omega)
     have hm2 : V * B ≤ 268435456 * 16 := Int.mul_le_mul (by omega) hbI (by omega) (by omega)
     obtain ⟨Q, hQ⟩ : ∃ Q, V * B = Q := ⟨_, rfl⟩
     rw [hQ] at HNN hm1 hm2
     clear hVb v0 v1
     go_wp2_with fail
     rw [HXC.out]
     refine (HSM.out _).mono ?_
     rintro e w2 ⟨rfl, hb2⟩
     have HB2 := Lib.hid (HR.out.2.trans (hb2.mono hszr))
     clear hb2
     go_wp2_with fail
     refine (HIX.out _).mono ?_
     rintro e w3 ⟨rfl, hw⟩
     have hw2 := hw.symm
     subst hw2
     clear hw
     go_wp2
     go_roundw
     case rel => exact ⟨k + 1, Q + D, _, _, rfl, rfl, by omega, by go_num, by first | rfl | go_num, Lib.hid ⟨fun h => HNN.out h, HB2.out⟩⟩
     case measure => simp [intOf] <;> omega
    ·clear hVb HNN
     go_wp2_with fail
     rw [HXC.out]
     refine (HSM.out _).mono ?_
     rintro e w2 ⟨rfl, hb2⟩
     have HB2 := Lib.hid (HR.out.2.trans (hb2.mono hszr))
     clear hb2
     go_wp2_with fail
     refine (HIX.out _).mono ?_
     rintro e w3 ⟨rfl, hw⟩
     have hw2 := hw.symm
     subst hw2
     clear hw
     go_wp2
     go_roundw
     case rel => exact ⟨k + 1, _, _, _, rfl, rfl, by omega, by go_num, rfl, Lib.hid ⟨fun h => absurd h hmo, HB2.out⟩⟩
     case measure => simp [intOf] <;> omega
  ·obtain rfl : k = n := by omega
   have HBE := Lib.hid HR.out.2
   by_cases hle : l = []
   ·have HF := Lib.hid (show o = none by rw [HSH.out, if_pos (.inl hle)])
    have g1 : s.toList.isEmpty = true := by rw [hem, hle]; rfl
    clear hem hle HR
    go_wp2
    go_ret2
    exact dg_no HF.out HBE.out
   ·have g1 : s.toList.isEmpty = false := by rw [hem]; simpa using hle
    clear hem
    by_cases hmo : k ≤ most
    ·have hfin := (by have := HR.out.1 hmo; rw [← HL.out] at this; exact this : DgRel l base l.length V).fin
     obtain ⟨q, hq1, hq2⟩ := hfin
     have HF := Lib.hid (show o = some q by rw [HSH.out, if_neg (by rintro (h | h); exact hle h; rw [HL.out] at h; omega), hq1])
     have HV := Lib.hid hq2
     have gm : (k : Int) ≤ M := by rw [← HMM.out]; omega
     have gm2 : decide ((k : Int) ≤ M) = true := decide_eq_true gm
     clear hle HR hq1 hq2
     go_wp2
     go_ret2
     exact dg_yes HF.out HV.out HBE.out
    ·have HF := Lib.hid (show o = none by rw [HSH.out, if_pos (.inr (by rw [HL.out]; omega))])
     have gm : ¬ (k : Int) ≤ M := by rw [← HMM.out]; omega
     have gm2 : decide ((k : Int) ≤ M) = false := decide_eq_false gm
     clear hle HR
     go_wp2
     go_ret2
     exact dg_no HF.out HBE.out
end Go.Proofs.YthidbmeaccpjdaaGreatDoor
