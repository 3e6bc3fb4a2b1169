/- Reference 12: the contract of Param. -/
import Derived.Test.YtnpgnohlcphfnaaGreatDoorM15
import Derived.Test.YtnpgnohlcphfnaaGreatDoorRCtB
namespace Go.Proofs.YtnpgnohlcphfnaaGreatDoor
open Go.RowKit
set_option linter.unusedVariables false

structure RPmRel (w : World) (ps : List (List UInt8 × List UInt8)) (name : List UInt8) (k : Nat) (wr : World) : Prop where
  eq : paramT ps name = paramT (ps.drop k) name
  bel : Below w.heap.size w wr
set_option maxRecDepth 100000 in
set_option maxHeartbeats 1000000 in
theorem rparam_any (ps : List (List UInt8 × List UInt8)) (name : List UInt8) (A : Option Addr) (n c : Nat) (w : World) (hP : Pars w w.heap.size A n ps) (hn : n ≤ 1000000000) (hs : ∀ p ∈ ps, p.1.length ≤ 1000000000) (hl : name.length ≤ 1000000000) :
    Calls Tryz.prog 15 #[.slice A n c, .string (ba name)] w (ParPost w (paramT ps name)) := by
  have HP := Lib.hid hP
  have HS := Lib.hid hs
  have HN := Lib.hid hP.len
  clear hP hs
  go_enter Tryz.func15, Tryz.ntmps15
  go_wp2
  go_loopw [6] (fun i wr => ∃ k : Nat, k ≤ n ∧ i = .int .i64 (k : Int) ∧ Hid (RPmRel w ps name k wr)) (fun i _ => n - (intOf i).toNat)
  case atStart => exact ⟨0, Nat.zero_le _, rfl, Lib.hid ⟨rfl, Below.refl _ _⟩⟩
  case round =>
    obtain ⟨k, hk, rfl, HR⟩ := hrel
    have hsz := HR.out.bel.size
    by_cases hlt : k < n
    · have hk2 : (k : Int) < n := by omega
      have hkl : k < ps.length := by rw [HN.out]; exact hlt
      obtain ⟨ad, rfl, hbl, c0, c1, -⟩ := (HP.out.below HR.out.bel).2 k hkl
      have hpl := HS.out _ (List.getElem_mem hkl)
      have heq := HR.out.eq
      rw [List.drop_eq_getElem_cons hkl] at heq
      have HBE := Lib.hid HR.out.bel
      obtain ⟨p, hp⟩ : ∃ p, ps[k] = p := ⟨_, rfl⟩
      rw [hp] at c0 c1 hpl heq
      obtain ⟨p1, p2⟩ := p
      have hpl1 : p1.length ≤ 1000000000 := hpl
      have d0 : wr.cell? (ad.add (k * 2)) = some (.string (ba p1)) := c0
      have d1 : wr.cell? ⟨(ad.add (k * 2)).block, (ad.add (k * 2)).off + 1, none⟩ = some (.string (ba p2)) := c1
      have HST := Lib.hid (show paramT ((p1, p2) :: ps.drop (k + 1)) name = if smallP p1 = smallP name then some p2 else paramT (ps.drop (k + 1)) name from by
        unfold paramT
        rw [List.find?_cons]
        by_cases h : smallP p1 = smallP name
        · rw [if_pos h, decide_eq_true h]; rfl
        · rw [if_neg h, decide_eq_false h])
      have HEQ := Lib.hid heq
      have HB1 := HBE
      have HKP := Lib.hid (show ∀ W, Below w.heap.size w W → W.cell? ⟨(ad.add (k * 2)).block, (ad.add (k * 2)).off + 1, none⟩ = some (.string (ba p2)) from fun W hW => by
        obtain ⟨ad2, e2, _, _, f1, _⟩ := (HP.out.below hW).2 k hkl
        injection e2 with e2
        subst e2
        rw [f1, hp])
      have HSA := Lib.hid (fun W => rsmall_any p1 W hpl1)
      have HSN := Lib.hid (fun W => rsmall_any name W hl)
      unfold StrB at HSA HSN
      obtain ⟨a1, ha1⟩ : ∃ a, smallP p1 = a := ⟨_, rfl⟩
      obtain ⟨b1, hb1⟩ : ∃ a, smallP name = a := ⟨_, rfl⟩
      simp only [ha1] at HSA
      simp only [hb1] at HSN
      rw [ha1, hb1] at HST
      clear hp hpl hkl hbl c0 c1 heq hpl1 ha1 hb1 HR
      by_cases he : a1 = b1
      · subst he
        have HF := Lib.hid (show paramT ps name = some p2 by rw [HEQ.out, HST.out, if_pos rfl])
        go_wp2_with fail
        refine (HSA.out _).mono ?_
        rintro e w2 ⟨rfl, hb2⟩
        have HB2 := Lib.hid (HB1.out.trans (hb2.mono HB1.out.size))
        clear hb2
        go_wp2_with fail
        refine (HSN.out _).mono ?_
        rintro e w3 ⟨rfl, hb3⟩
        have HB3 := Lib.hid (HB2.out.trans (hb3.mono HB2.out.size))
        clear hb3
        have e3 := HKP.out w3 HB3.out
        go_wp2
        go_ret2
        exact par_end HF.out rfl HB3.out
      · have g2 : ((ba a1).toList == (ba b1).toList) = false := by rw [ba_toList, ba_toList]; simpa using he
        have g3 : ¬ (ba a1).toList = (ba b1).toList := by rw [ba_toList, ba_toList]; exact he
        have g4 : ¬ ba a1 = ba b1 := fun h => he (ba_inj.1 h)
        have HF := Lib.hid (show paramT ps name = paramT (ps.drop (k + 1)) name by rw [HEQ.out, HST.out, if_neg he])
        clear he
        go_wp2_with fail
        refine (HSA.out _).mono ?_
        rintro e w2 ⟨rfl, hb2⟩
        have HB2 := Lib.hid (HB1.out.trans (hb2.mono HB1.out.size))
        clear hb2
        go_wp2_with fail
        refine (HSN.out _).mono ?_
        rintro e w3 ⟨rfl, hb3⟩
        have HB3 := Lib.hid (HB2.out.trans (hb3.mono HB2.out.size))
        clear hb3
        go_wp2
        go_roundw
        case rel => exact ⟨k + 1, by omega, by go_num, Lib.hid ⟨HF.out, HB3.out⟩⟩
        case measure => simp [intOf] <;> omega
    · obtain rfl : k = n := by omega
      have HF := Lib.hid (show paramT ps name = none by
        rw [HR.out.eq, List.drop_of_length_le (by rw [HN.out]; exact Nat.le_refl _)]
        rfl)
      have HB := Lib.hid HR.out.bel
      clear HR
      go_wp2
      go_ret2
      exact par_end0 HF.out HB.out
end Go.Proofs.YtnpgnohlcphfnaaGreatDoor
