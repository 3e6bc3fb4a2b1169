/- CtypeWrites: the walk. -/
import Derived.Test.YtnpgnohlcphfnaaGreatDoorM16
import Derived.Test.YtnpgnohlcphfnaaGreatDoorM17
namespace Go.Proofs.YtnpgnohlcphfnaaGreatDoor
open Go.RowKit
set_option linter.unusedVariables false

theorem line_le (first : List UInt8) (B : Nat) : ∀ ps : List (List UInt8 × List UInt8), (∀ p ∈ ps, p.1.length ≤ B ∧ p.2.length ≤ 2000) → (lineP first ps).length ≤ first.length + ps.length * (B + 6011)
  | [], _ => by unfold lineP; simp
  | p :: ps, h => by
    have ih := line_le first B ps fun q hq => h q (by simp [hq])
    have h1 := h p (by simp)
    have h2 : (fmtV p.2).length ≤ 6009 := by
      rw [fmt_cases]
      have h3 := rawP_len true p.2
      have h4 := rawP_len false p.2
      split
      · simp; omega
      · split
        · simp; omega
        · simp; omega
    have e : lineP first (p :: ps) = first ++ (([59, 32] ++ p.1 ++ fmtV p.2) ++ ps.flatMap fun p => [59, 32] ++ p.1 ++ fmtV p.2) := rfl
    have e2 : lineP first ps = first ++ ps.flatMap fun p => [59, 32] ++ p.1 ++ fmtV p.2 := rfl
    rw [e2, List.length_append] at ih
    rw [e, List.length_append, List.length_append, List.length_append, List.length_append]
    generalize (ps.flatMap fun p => [59, 32] ++ p.1 ++ fmtV p.2).length = X at ih ⊢
    have h5 : ([59, 32] : List UInt8).length = 2 := rfl
    have h6 : (p :: ps).length * (B + 6011) = ps.length * (B + 6011) + (B + 6011) := by rw [List.length_cons]; exact Nat.succ_mul _ _
    rw [h6]
    omega
/-- The state of the loop that looks at the values' lengths. -/
structure FwRel (w : World) (ps : List (List UInt8 × List UInt8)) (k : Nat) (wr : World) : Prop where
  few : ∀ p ∈ ps.take k, p.2.length ≤ 2000
  bel : wr = w
set_option maxRecDepth 100000 in
set_option maxHeartbeats 2000000 in
theorem writes_any (kind sub : List UInt8) (ps : List (List UInt8 × List UInt8)) (A : Option Addr) (n c : Nat) (w : World) (hP : Pars w w.heap.size A n ps) (hk : kind.length ≤ 140737488351232) (hs : sub.length ≤ 140737488351232) (hps : ∀ p ∈ ps, p.1.length ≤ 140737488351232 ∧ p.2.length ≤ 140737488351232) (hn : n ≤ 9223372036854775807) (hT : Tabs w) :
    Calls Tryz.prog 4 #[.agg #[.string (ba kind), .string (ba sub), .slice A n c]] w (LTrue w) := by
  have hB0 := (Below.refl w.heap.size w).alloc (Nat.le_refl _) (.cells #[.string (ba kind), .string (ba sub), .slice A n c] 26)
  have HB0 := Lib.hid hB0
  have HSM := Lib.hid (lsmall_any _ (hT.below hB0))
  have HP := Lib.hid hP
  have HN := Lib.hid hP.len
  have HPS := Lib.hid hps
  have HK := Lib.hid (And.intro hk hs)
  unfold LTrue at HSM
  clear hP hps hk hs hB0 hT
  go_enter Tryz.func4, Tryz.ntmps4
  go_wp2_with fail
  refine HSM.out.mono ?_
  rintro e w1 ⟨rfl, hb1⟩
  have t0 : w1.cell? ⟨w.heap.size, 0, none⟩ = some (.string (ba kind)) := (hb1.cell (p := ⟨w.heap.size, 0, none⟩) (by simp)).trans (by go_simp)
  have t1 : w1.cell? ⟨w.heap.size, 1, none⟩ = some (.string (ba sub)) := (hb1.cell (p := ⟨w.heap.size, 1, none⟩) (by simp)).trans (by go_simp)
  have t2 : w1.cell? ⟨w.heap.size, 2, none⟩ = some (.slice A n c) := (hb1.cell (p := ⟨w.heap.size, 2, none⟩) (by simp)).trans (by go_simp)
  have HB1 := Lib.hid (HB0.out.trans (hb1.mono HB0.out.size))
  have hz1 : w.heap.size < w1.heap.size := by have := hb1.size; simp at this; omega
  have HP1 := Lib.hid (HP.out.below HB1.out)
  clear hb1 HSM
  by_cases h20 : 20 < n
  · have h20i : (20 : Int) < (n : Int) := by omega
    go_wp2
    go_ret
    exact ⟨rfl, HB1.out⟩
  · have h20i : ¬ (20 : Int) < (n : Int) := by omega
    go_wp2
    go_loopw [4] (fun i wr => ∃ k : Nat, k ≤ n ∧ i = .int .i64 (k : Int) ∧ Hid (FwRel w1 ps k wr)) (fun i _ => n - (intOf i).toNat)
    case atStart => exact ⟨0, Nat.zero_le _, rfl, Lib.hid ⟨(fun p hp => by cases hp), rfl⟩⟩
    case round =>
      obtain ⟨k, hk, rfl, HR⟩ := hrel
      obtain rfl := HR.out.bel
      by_cases hlt : k < n
      · have hk2 : (k : Int) < n := by omega
        have hkl : k < ps.length := by rw [HN.out]; exact hlt
        obtain ⟨ad, rfl, hbl, c0, c1, -⟩ := HP1.out.2 k hkl
        have HTK := Lib.hid (show ps.take (k + 1) = ps.take k ++ [ps[k]] from List.take_succ_eq_append_getElem hkl)
        obtain ⟨p, hp⟩ : ∃ p, ps[k] = p := ⟨_, rfl⟩
        rw [hp] at c0 c1 HTK
        obtain ⟨p1, p2⟩ := p
        have d1 : wr.cell? ⟨(ad.add (k * 2)).block, (ad.add (k * 2)).off + 1, none⟩ = some (.string (ba p2)) := c1
        have HFE := Lib.hid (few_any p2)
        clear hp c0 c1 hbl hkl
        by_cases hf : p2.length ≤ 2000
        · have HNX := Lib.hid (show FwRel wr ps (k + 1) wr from ⟨(fun q hq => by
            rw [HTK.out, List.mem_append] at hq
            rcases hq with hq | hq
            · exact HR.out.few q hq
            · rw [List.mem_singleton.1 hq]
              exact hf), rfl⟩)
          have HFE2 := Lib.hid (fun W => HFE.out W)
          rw [decide_eq_true hf] at HFE2
          clear HFE hf
          go_wp2_with fail
          refine (HFE2.out _).mono ?_
          rintro e w' ⟨rfl, hw⟩
          have hw2 := hw.symm
          subst hw2
          clear hw
          go_wp2
          go_roundw
          case rel => exact ⟨k + 1, by omega, by go_num, HNX⟩
          case measure => simp [intOf] <;> omega
        · have HFE2 := Lib.hid (fun W => HFE.out W)
          rw [decide_eq_false hf] at HFE2
          clear HFE hf
          go_wp2_with fail
          refine (HFE2.out _).mono ?_
          rintro e w' ⟨rfl, hw⟩
          have hw2 := hw.symm
          subst hw2
          clear hw
          go_wp2
          go_ret
          exact ⟨rfl, HB1.out⟩
      · obtain rfl : n = k := by omega
        have hfew : ∀ p ∈ ps, p.2.length ≤ 2000 := by
          have h := HR.out.few
          rw [List.take_of_length_le (by rw [HN.out]; exact Nat.le_refl _)] at h
          exact h
        have hv : ∀ p ∈ ps, p.2.length ≤ 100000000 := fun p hp => Nat.le_trans (hfew p hp) (by decide)
        have hbd : ∀ f : List UInt8, f.length ≤ 281474976702465 → (lineP f ps).length ≤ 9007199254740992 := fun f hf => by
          have h := line_le f 140737488351232 ps fun p hp => ⟨(HPS.out p hp).1, hfew p hp⟩
          have h2 : ps.length * (140737488351232 + 6011) ≤ 20 * (140737488351232 + 6011) := Nat.mul_le_mul_right _ (by rw [HN.out]; omega)
          omega
        have hl1 := hbd (kind ++ [47] ++ sub) (by rw [List.length_append, List.length_append]; have := HK.out; simp; omega)
        have hl2 := hbd kind (by have := HK.out; omega)
        have HWP := Lib.hid (fun W' (hW : Below wr.heap.size wr W') => (HP.out.below (HB1.out.trans (hW.mono HB1.out.size))).more (HB1.out.trans (hW.mono HB1.out.size)).size)
        have hnb : n ≤ 1000000000 := by omega
        have HW1 := Lib.hid (fun W' hW => write_any kind sub ps A n c W' (HWP.out W' hW) hv hnb hl1)
        have HW2 := Lib.hid (fun W' hW => rwrite_any kind sub ps A n c W' (HWP.out W' hW) hv hnb hl1)
        have HL1 := Lib.hid (fun W' hW => line_any kind ps A n c W' (HWP.out W' hW) hv hnb hl2)
        have HL2 := Lib.hid (fun W' hW => rline_any kind ps A n c W' (HWP.out W' hW) hv hnb hl2)
        unfold StrB at HW1 HW2 HL1 HL2
        obtain ⟨q1, hq1⟩ : ∃ q, ba (lineP (kind ++ [47] ++ sub) ps) = q := ⟨_, rfl⟩
        obtain ⟨q2, hq2⟩ : ∃ q, ba (lineP kind ps) = q := ⟨_, rfl⟩
        simp only [hq1] at HW1 HW2
        simp only [hq2] at HL1 HL2
        have e1 : (q1.toList == q1.toList) = true := by simp
        have e2 : (q2.toList == q2.toList) = true := by simp
        clear hfew hv hbd hl1 hl2 hq1 hq2 HR
        go_wp2
        go_region_held3 (fun w' => w'.cell? ⟨w.heap.size, 0, none⟩ = some (.string (ba kind)) ∧ w'.cell? ⟨w.heap.size, 1, none⟩ = some (.string (ba sub)) ∧ w'.cell? ⟨w.heap.size, 2, none⟩ = some (.slice A n c))
          (first | (go_split_ands; refine ⟨?_, ?_, ?_⟩ <;> first | assumption | go_keep))
          (first
            | (go_simp; go_at_call 18; refine (HW1.out _ (show Below wr.heap.size wr wr.drew from (Below.refl _ _).drew)).mono ?_; rintro e v1 ⟨rfl, hb⟩; (
                have HV1 := Lib.hid (show Below wr.heap.size wr v1 from (show Below wr.heap.size wr wr.drew from (Below.refl _ _).drew).trans (hb.mono (Nat.le_refl _)))
                have p1a : v1.cell? ⟨w.heap.size, 0, none⟩ = some (.string (ba kind)) := (HV1.out.cell (p := ⟨w.heap.size, 0, none⟩) hz1).trans t0
                have p1b : v1.cell? ⟨w.heap.size, 1, none⟩ = some (.string (ba sub)) := (HV1.out.cell (p := ⟨w.heap.size, 1, none⟩) hz1).trans t1
                have p1c : v1.cell? ⟨w.heap.size, 2, none⟩ = some (.slice A n c) := (HV1.out.cell (p := ⟨w.heap.size, 2, none⟩) hz1).trans t2
                clear hb))
            | (go_simp; go_at_call 19; refine (HW2.out v1 HV1.out).mono ?_; rintro e v2 ⟨rfl, hb⟩; (
                have HV2 := Lib.hid (show Below wr.heap.size wr v2 from HV1.out.trans (hb.mono HV1.out.size))
                have p2a : v2.cell? ⟨w.heap.size, 0, none⟩ = some (.string (ba kind)) := (HV2.out.cell (p := ⟨w.heap.size, 0, none⟩) hz1).trans t0
                have p2b : v2.cell? ⟨w.heap.size, 1, none⟩ = some (.string (ba sub)) := (HV2.out.cell (p := ⟨w.heap.size, 1, none⟩) hz1).trans t1
                have p2c : v2.cell? ⟨w.heap.size, 2, none⟩ = some (.slice A n c) := (HV2.out.cell (p := ⟨w.heap.size, 2, none⟩) hz1).trans t2
                clear hb))
            | (go_simp; go_at_call 20; refine (HL1.out v2 HV2.out).mono ?_; rintro e v3 ⟨rfl, hb⟩; (
                have HV3 := Lib.hid (show Below wr.heap.size wr v3 from HV2.out.trans (hb.mono HV2.out.size))
                have p3a : v3.cell? ⟨w.heap.size, 0, none⟩ = some (.string (ba kind)) := (HV3.out.cell (p := ⟨w.heap.size, 0, none⟩) hz1).trans t0
                have p3b : v3.cell? ⟨w.heap.size, 1, none⟩ = some (.string (ba sub)) := (HV3.out.cell (p := ⟨w.heap.size, 1, none⟩) hz1).trans t1
                have p3c : v3.cell? ⟨w.heap.size, 2, none⟩ = some (.slice A n c) := (HV3.out.cell (p := ⟨w.heap.size, 2, none⟩) hz1).trans t2
                clear hb))
            | (go_simp; go_at_call 21; refine (HL2.out v3 HV3.out).mono ?_; rintro e v4 ⟨rfl, hb⟩; (
                have HV4 := Lib.hid (show Below wr.heap.size wr v4 from HV3.out.trans (hb.mono HV3.out.size))
                have p4a : v4.cell? ⟨w.heap.size, 0, none⟩ = some (.string (ba kind)) := (HV4.out.cell (p := ⟨w.heap.size, 0, none⟩) hz1).trans t0
                have p4b : v4.cell? ⟨w.heap.size, 1, none⟩ = some (.string (ba sub)) := (HV4.out.cell (p := ⟨w.heap.size, 1, none⟩) hz1).trans t1
                have p4c : v4.cell? ⟨w.heap.size, 2, none⟩ = some (.slice A n c) := (HV4.out.cell (p := ⟨w.heap.size, 2, none⟩) hz1).trans t2
                clear hb))
            | fail)
        all_goals
          go_wp2
          go_ret
          exact ⟨rfl, HB1.out.trans (HV4.out.mono HB1.out.size)⟩
end Go.Proofs.YtnpgnohlcphfnaaGreatDoor
