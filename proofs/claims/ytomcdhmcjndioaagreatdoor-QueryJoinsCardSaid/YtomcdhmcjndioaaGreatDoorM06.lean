/- The reference of layer 37: field. Layer 37: what the package variables hold; strings.Cut, CutSuffix, strings.IndexAny; field. Layer 37: the contracts of flag and size. Layer 37: the contract of size. Layer 7, plain: what the program computes on its way from a day to its date. -/
import Derived.Deep.RegionHeld3
import Derived.Shelf.Strings.FuncGrows
import Derived.Test.YtomcdhmcjndioaaGreatDoorM05
import Derived.Test.YtomcdhmcjndioaaGreatDoorM04
import Derived.Test.YtomcdhmcjndioaaGreatDoorM01
import Derived.Test.YtomcdhmcjndioaaGreatDoorM02
section
namespace Go.Proofs.YtomcdhmcjndioaaGreatDoor
open Go.RowKit
set_option linter.unusedVariables false

theorem field_at (s : List UInt8) : (smallP s = [102, 114, 111, 109] ↔ fieldQ s = 1) ∧ (smallP s = [116, 111] ↔ fieldQ s = 2) ∧ (smallP s = [115, 117, 98, 106, 101, 99, 116] ↔ fieldQ s = 3) ∧ (smallP s = [98, 111, 100, 121] ↔ fieldQ s = 4) ∧ (smallP s = [102, 105, 108, 101] ↔ fieldQ s = 5) ∧ fieldQ s ≤ 5 := by
  unfold fieldQ
  by_cases h1 : smallP s = [102, 114, 111, 109]
  · rw [h1]; decide
  · by_cases h2 : smallP s = [116, 111]
    · rw [h2]; decide
    · by_cases h3 : smallP s = [115, 117, 98, 106, 101, 99, 116]
      · rw [h3]; decide
      · by_cases h4 : smallP s = [98, 111, 100, 121]
        · rw [h4]; decide
        · by_cases h5 : smallP s = [102, 105, 108, 101]
          · rw [h5]; decide
          · simp [h1, h2, h3, h4, h5]
set_option maxRecDepth 100000 in
set_option maxHeartbeats 4000000 in
theorem rfield_any (l : List UInt8) (w : World) (hl : l.length ≤ 1000000000) :
    Calls Tryz.prog 34 #[.string (ba l)] w fun e w' => e = .returned (.int .i64 (fieldQ l : Nat)) ∧ Below w.heap.size w w' := by
  have HSM := Lib.hid (fun W => rqsmall_any l W hl)
  unfold StrB at HSM
  obtain ⟨f1, f2, f3, f4, f5, f6⟩ := field_at l
  obtain ⟨F, hF⟩ : ∃ F, fieldQ l = F := ⟨_, rfl⟩
  rw [hF] at f1 f2 f3 f4 f5 f6 ⊢
  obtain ⟨t, ht⟩ : ∃ t, ba (smallP l) = t := ⟨_, rfl⟩
  obtain ⟨s, hs⟩ : ∃ s, ba l = s := ⟨_, rfl⟩
  have k1 : (⟨#[102, 114, 111, 109]⟩ : ByteArray) = t ↔ F = 1 := by rw [← f1, ← ht, eq_comm]; exact ba_inj (b := [102, 114, 111, 109])
  have k2 : (⟨#[116, 111]⟩ : ByteArray) = t ↔ F = 2 := by rw [← f2, ← ht, eq_comm]; exact ba_inj (b := [116, 111])
  have k3 : (⟨#[115, 117, 98, 106, 101, 99, 116]⟩ : ByteArray) = t ↔ F = 3 := by rw [← f3, ← ht, eq_comm]; exact ba_inj (b := [115, 117, 98, 106, 101, 99, 116])
  have k4 : (⟨#[98, 111, 100, 121]⟩ : ByteArray) = t ↔ F = 4 := by rw [← f4, ← ht, eq_comm]; exact ba_inj (b := [98, 111, 100, 121])
  have k5 : (⟨#[102, 105, 108, 101]⟩ : ByteArray) = t ↔ F = 5 := by rw [← f5, ← ht, eq_comm]; exact ba_inj (b := [102, 105, 108, 101])
  have n1 : (⟨#[102, 114, 111, 109]⟩ : ByteArray).toList = t.toList ↔ F = 1 := by rw [← f1, ← ht, ba_toList, show (⟨#[102, 114, 111, 109]⟩ : ByteArray).toList = [102, 114, 111, 109] from ba_toList [102, 114, 111, 109]]; exact eq_comm
  have n2 : (⟨#[116, 111]⟩ : ByteArray).toList = t.toList ↔ F = 2 := by rw [← f2, ← ht, ba_toList, show (⟨#[116, 111]⟩ : ByteArray).toList = [116, 111] from ba_toList [116, 111]]; exact eq_comm
  have n3 : (⟨#[115, 117, 98, 106, 101, 99, 116]⟩ : ByteArray).toList = t.toList ↔ F = 3 := by rw [← f3, ← ht, ba_toList, show (⟨#[115, 117, 98, 106, 101, 99, 116]⟩ : ByteArray).toList = [115, 117, 98, 106, 101, 99, 116] from ba_toList [115, 117, 98, 106, 101, 99, 116]]; exact eq_comm
  have n4 : (⟨#[98, 111, 100, 121]⟩ : ByteArray).toList = t.toList ↔ F = 4 := by rw [← f4, ← ht, ba_toList, show (⟨#[98, 111, 100, 121]⟩ : ByteArray).toList = [98, 111, 100, 121] from ba_toList [98, 111, 100, 121]]; exact eq_comm
  have n5 : (⟨#[102, 105, 108, 101]⟩ : ByteArray).toList = t.toList ↔ F = 5 := by rw [← f5, ← ht, ba_toList, show (⟨#[102, 105, 108, 101]⟩ : ByteArray).toList = [102, 105, 108, 101] from ba_toList [102, 105, 108, 101]]; exact eq_comm
  rw [ht, hs] at HSM
  rw [hs]
  clear f1 f2 f3 f4 f5 ht hs hF
  go_enter Tryz.func34, Tryz.ntmps34
  go_wp2
  obtain ⟨W0, hW0⟩ : ∃ W0, w.alloc (.cells #[.string ⟨#[]⟩, .string ⟨#[102, 114, 111, 109]⟩, .string ⟨#[116, 111]⟩, .string ⟨#[115, 117, 98, 106, 101, 99, 116]⟩, .string ⟨#[98, 111, 100, 121]⟩, .string ⟨#[102, 105, 108, 101]⟩] 9) = W0 := ⟨_, rfl⟩
  have c1 : W0.cell? ⟨w.heap.size, 1, none⟩ = some (.string ⟨#[102, 114, 111, 109]⟩) := by subst hW0; go_simp
  have c2 : W0.cell? ⟨w.heap.size, 2, none⟩ = some (.string ⟨#[116, 111]⟩) := by subst hW0; go_simp
  have c3 : W0.cell? ⟨w.heap.size, 3, none⟩ = some (.string ⟨#[115, 117, 98, 106, 101, 99, 116]⟩) := by subst hW0; go_simp
  have c4 : W0.cell? ⟨w.heap.size, 4, none⟩ = some (.string ⟨#[98, 111, 100, 121]⟩) := by subst hW0; go_simp
  have c5 : W0.cell? ⟨w.heap.size, 5, none⟩ = some (.string ⟨#[102, 105, 108, 101]⟩) := by subst hW0; go_simp
  have hz : w.heap.size < W0.heap.size := by subst hW0; simp
  have HB0 := Lib.hid (show Below w.heap.size w W0 by subst hW0; exact (Below.refl _ _).alloc (Nat.le_refl _) _)
  try rw [hW0]
  clear hW0
  go_loopw [4] (fun i wr => ∃ k : Nat, 1 ≤ k ∧ k ≤ 6 ∧ (F = 0 ∨ k ≤ F) ∧ i = .int .i64 (k : Int) ∧ Hid (Below W0.heap.size W0 wr)) (fun i _ => 6 - (intOf i).toNat)
  case atStart => exact ⟨1, Nat.le_refl _, by omega, by omega, rfl, Lib.hid (Below.refl _ _)⟩
  case round =>
    obtain ⟨k, hk1, hk6, hkF, rfl, HR⟩ := hrel
    rcases (show k = 1 ∨ k = 2 ∨ k = 3 ∨ k = 4 ∨ k = 5 ∨ k = 6 by omega) with h | h | h | h | h | h <;> subst h
    · have d1 : wr.cell? ⟨w.heap.size, 1, none⟩ = some (.string ⟨#[102, 114, 111, 109]⟩) := (HR.out.cell (p := ⟨w.heap.size, 1, none⟩) hz).trans c1
      have hzr : w.heap.size < wr.heap.size := Nat.lt_of_lt_of_le hz HR.out.size
      by_cases hf : F = 1
      · have g1 : decide ((⟨#[102, 114, 111, 109]⟩ : ByteArray) = t) = true := decide_eq_true (k1.2 hf)
        have g2 : (⟨#[102, 114, 111, 109]⟩ : ByteArray).toList = t.toList := n1.2 hf
        have g3 : (⟨#[102, 114, 111, 109]⟩ : ByteArray) = t := k1.2 hf
        go_wp2_with fail
        go_region_held3 (fun w' => w'.cell? ⟨w.heap.size, 1, none⟩ = some (.string ⟨#[102, 114, 111, 109]⟩))
          (first | assumption | go_keep)
          (first
            | (go_simp; go_at_call 51; refine (HSM.out _).mono ?_; rintro e v1 ⟨rfl, hb⟩; (
                have HV1 := Lib.hid (show Below wr.heap.size wr v1 from (show Below wr.heap.size wr wr.drew from (Below.refl _ _).drew).trans (hb.mono (Nat.le_refl _)))
                have p0 : v1.cell? ⟨w.heap.size, 1, none⟩ = some (.string ⟨#[102, 114, 111, 109]⟩) := (HV1.out.cell (p := ⟨w.heap.size, 1, none⟩) hzr).trans d1
                clear hb))
            | fail)
        all_goals
          have HB2 := Lib.hid (HR.out.trans (HV1.out.mono HR.out.size))
          go_wp2
          go_ret
          exact ⟨by rw [hf]; rfl, HB0.out.trans (HB2.out.mono (Nat.le_of_lt hz))⟩
      · have g1 : decide ((⟨#[102, 114, 111, 109]⟩ : ByteArray) = t) = false := decide_eq_false fun h => hf (k1.1 h)
        have g2 : ¬ (⟨#[102, 114, 111, 109]⟩ : ByteArray).toList = t.toList := fun h => hf (n1.1 h)
        have g3 : ¬ (⟨#[102, 114, 111, 109]⟩ : ByteArray) = t := fun h => hf (k1.1 h)
        have g4 : (([102, 114, 111, 109] : List UInt8) == t.toList) = false := beq_eq_false_iff_ne.2 fun h => hf (n1.1 ((ba_toList [102, 114, 111, 109]).trans h))
        go_wp2_with fail
        go_region_held3 (fun w' => w'.cell? ⟨w.heap.size, 1, none⟩ = some (.string ⟨#[102, 114, 111, 109]⟩))
          (first | assumption | go_keep)
          (first
            | (go_simp; go_at_call 51; refine (HSM.out _).mono ?_; rintro e v1 ⟨rfl, hb⟩; (
                have HV1 := Lib.hid (show Below wr.heap.size wr v1 from (show Below wr.heap.size wr wr.drew from (Below.refl _ _).drew).trans (hb.mono (Nat.le_refl _)))
                have p0 : v1.cell? ⟨w.heap.size, 1, none⟩ = some (.string ⟨#[102, 114, 111, 109]⟩) := (HV1.out.cell (p := ⟨w.heap.size, 1, none⟩) hzr).trans d1
                clear hb))
            | fail)
        all_goals
          have HB2 := Lib.hid (HR.out.trans (HV1.out.mono HR.out.size))
          go_wp2
          go_roundw
          all_goals first
            | exact ⟨⟨2, by omega, by omega, by omega, rfl, HB2⟩, by decide⟩
            | rfl
            | exact ⟨2, by omega, by omega, by omega, rfl, HB2⟩
            | (simp [intOf] <;> omega)
    · have d1 : wr.cell? ⟨w.heap.size, 2, none⟩ = some (.string ⟨#[116, 111]⟩) := (HR.out.cell (p := ⟨w.heap.size, 2, none⟩) hz).trans c2
      have hzr : w.heap.size < wr.heap.size := Nat.lt_of_lt_of_le hz HR.out.size
      by_cases hf : F = 2
      · have g1 : decide ((⟨#[116, 111]⟩ : ByteArray) = t) = true := decide_eq_true (k2.2 hf)
        have g2 : (⟨#[116, 111]⟩ : ByteArray).toList = t.toList := n2.2 hf
        have g3 : (⟨#[116, 111]⟩ : ByteArray) = t := k2.2 hf
        go_wp2_with fail
        go_region_held3 (fun w' => w'.cell? ⟨w.heap.size, 2, none⟩ = some (.string ⟨#[116, 111]⟩))
          (first | assumption | go_keep)
          (first
            | (go_simp; go_at_call 51; refine (HSM.out _).mono ?_; rintro e v1 ⟨rfl, hb⟩; (
                have HV1 := Lib.hid (show Below wr.heap.size wr v1 from (show Below wr.heap.size wr wr.drew from (Below.refl _ _).drew).trans (hb.mono (Nat.le_refl _)))
                have p0 : v1.cell? ⟨w.heap.size, 2, none⟩ = some (.string ⟨#[116, 111]⟩) := (HV1.out.cell (p := ⟨w.heap.size, 2, none⟩) hzr).trans d1
                clear hb))
            | fail)
        all_goals
          have HB2 := Lib.hid (HR.out.trans (HV1.out.mono HR.out.size))
          go_wp2
          go_ret
          exact ⟨by rw [hf]; rfl, HB0.out.trans (HB2.out.mono (Nat.le_of_lt hz))⟩
      · have g1 : decide ((⟨#[116, 111]⟩ : ByteArray) = t) = false := decide_eq_false fun h => hf (k2.1 h)
        have g2 : ¬ (⟨#[116, 111]⟩ : ByteArray).toList = t.toList := fun h => hf (n2.1 h)
        have g3 : ¬ (⟨#[116, 111]⟩ : ByteArray) = t := fun h => hf (k2.1 h)
        have g4 : (([116, 111] : List UInt8) == t.toList) = false := beq_eq_false_iff_ne.2 fun h => hf (n2.1 ((ba_toList [116, 111]).trans h))
        go_wp2_with fail
        go_region_held3 (fun w' => w'.cell? ⟨w.heap.size, 2, none⟩ = some (.string ⟨#[116, 111]⟩))
          (first | assumption | go_keep)
          (first
            | (go_simp; go_at_call 51; refine (HSM.out _).mono ?_; rintro e v1 ⟨rfl, hb⟩; (
                have HV1 := Lib.hid (show Below wr.heap.size wr v1 from (show Below wr.heap.size wr wr.drew from (Below.refl _ _).drew).trans (hb.mono (Nat.le_refl _)))
                have p0 : v1.cell? ⟨w.heap.size, 2, none⟩ = some (.string ⟨#[116, 111]⟩) := (HV1.out.cell (p := ⟨w.heap.size, 2, none⟩) hzr).trans d1
                clear hb))
            | fail)
        all_goals
          have HB2 := Lib.hid (HR.out.trans (HV1.out.mono HR.out.size))
          go_wp2
          go_roundw
          all_goals first
            | exact ⟨⟨3, by omega, by omega, by omega, rfl, HB2⟩, by decide⟩
            | rfl
            | exact ⟨3, by omega, by omega, by omega, rfl, HB2⟩
            | (simp [intOf] <;> omega)
    · have d1 : wr.cell? ⟨w.heap.size, 3, none⟩ = some (.string ⟨#[115, 117, 98, 106, 101, 99, 116]⟩) := (HR.out.cell (p := ⟨w.heap.size, 3, none⟩) hz).trans c3
      have hzr : w.heap.size < wr.heap.size := Nat.lt_of_lt_of_le hz HR.out.size
      by_cases hf : F = 3
      · have g1 : decide ((⟨#[115, 117, 98, 106, 101, 99, 116]⟩ : ByteArray) = t) = true := decide_eq_true (k3.2 hf)
        have g2 : (⟨#[115, 117, 98, 106, 101, 99, 116]⟩ : ByteArray).toList = t.toList := n3.2 hf
        have g3 : (⟨#[115, 117, 98, 106, 101, 99, 116]⟩ : ByteArray) = t := k3.2 hf
        go_wp2_with fail
        go_region_held3 (fun w' => w'.cell? ⟨w.heap.size, 3, none⟩ = some (.string ⟨#[115, 117, 98, 106, 101, 99, 116]⟩))
          (first | assumption | go_keep)
          (first
            | (go_simp; go_at_call 51; refine (HSM.out _).mono ?_; rintro e v1 ⟨rfl, hb⟩; (
                have HV1 := Lib.hid (show Below wr.heap.size wr v1 from (show Below wr.heap.size wr wr.drew from (Below.refl _ _).drew).trans (hb.mono (Nat.le_refl _)))
                have p0 : v1.cell? ⟨w.heap.size, 3, none⟩ = some (.string ⟨#[115, 117, 98, 106, 101, 99, 116]⟩) := (HV1.out.cell (p := ⟨w.heap.size, 3, none⟩) hzr).trans d1
                clear hb))
            | fail)
        all_goals
          have HB2 := Lib.hid (HR.out.trans (HV1.out.mono HR.out.size))
          go_wp2
          go_ret
          exact ⟨by rw [hf]; rfl, HB0.out.trans (HB2.out.mono (Nat.le_of_lt hz))⟩
      · have g1 : decide ((⟨#[115, 117, 98, 106, 101, 99, 116]⟩ : ByteArray) = t) = false := decide_eq_false fun h => hf (k3.1 h)
        have g2 : ¬ (⟨#[115, 117, 98, 106, 101, 99, 116]⟩ : ByteArray).toList = t.toList := fun h => hf (n3.1 h)
        have g3 : ¬ (⟨#[115, 117, 98, 106, 101, 99, 116]⟩ : ByteArray) = t := fun h => hf (k3.1 h)
        have g4 : (([115, 117, 98, 106, 101, 99, 116] : List UInt8) == t.toList) = false := beq_eq_false_iff_ne.2 fun h => hf (n3.1 ((ba_toList [115, 117, 98, 106, 101, 99, 116]).trans h))
        go_wp2_with fail
        go_region_held3 (fun w' => w'.cell? ⟨w.heap.size, 3, none⟩ = some (.string ⟨#[115, 117, 98, 106, 101, 99, 116]⟩))
          (first | assumption | go_keep)
          (first
            | (go_simp; go_at_call 51; refine (HSM.out _).mono ?_; rintro e v1 ⟨rfl, hb⟩; (
                have HV1 := Lib.hid (show Below wr.heap.size wr v1 from (show Below wr.heap.size wr wr.drew from (Below.refl _ _).drew).trans (hb.mono (Nat.le_refl _)))
                have p0 : v1.cell? ⟨w.heap.size, 3, none⟩ = some (.string ⟨#[115, 117, 98, 106, 101, 99, 116]⟩) := (HV1.out.cell (p := ⟨w.heap.size, 3, none⟩) hzr).trans d1
                clear hb))
            | fail)
        all_goals
          have HB2 := Lib.hid (HR.out.trans (HV1.out.mono HR.out.size))
          go_wp2
          go_roundw
          all_goals first
            | exact ⟨⟨4, by omega, by omega, by omega, rfl, HB2⟩, by decide⟩
            | rfl
            | exact ⟨4, by omega, by omega, by omega, rfl, HB2⟩
            | (simp [intOf] <;> omega)
    · have d1 : wr.cell? ⟨w.heap.size, 4, none⟩ = some (.string ⟨#[98, 111, 100, 121]⟩) := (HR.out.cell (p := ⟨w.heap.size, 4, none⟩) hz).trans c4
      have hzr : w.heap.size < wr.heap.size := Nat.lt_of_lt_of_le hz HR.out.size
      by_cases hf : F = 4
      · have g1 : decide ((⟨#[98, 111, 100, 121]⟩ : ByteArray) = t) = true := decide_eq_true (k4.2 hf)
        have g2 : (⟨#[98, 111, 100, 121]⟩ : ByteArray).toList = t.toList := n4.2 hf
        have g3 : (⟨#[98, 111, 100, 121]⟩ : ByteArray) = t := k4.2 hf
        go_wp2_with fail
        go_region_held3 (fun w' => w'.cell? ⟨w.heap.size, 4, none⟩ = some (.string ⟨#[98, 111, 100, 121]⟩))
          (first | assumption | go_keep)
          (first
            | (go_simp; go_at_call 51; refine (HSM.out _).mono ?_; rintro e v1 ⟨rfl, hb⟩; (
                have HV1 := Lib.hid (show Below wr.heap.size wr v1 from (show Below wr.heap.size wr wr.drew from (Below.refl _ _).drew).trans (hb.mono (Nat.le_refl _)))
                have p0 : v1.cell? ⟨w.heap.size, 4, none⟩ = some (.string ⟨#[98, 111, 100, 121]⟩) := (HV1.out.cell (p := ⟨w.heap.size, 4, none⟩) hzr).trans d1
                clear hb))
            | fail)
        all_goals
          have HB2 := Lib.hid (HR.out.trans (HV1.out.mono HR.out.size))
          go_wp2
          go_ret
          exact ⟨by rw [hf]; rfl, HB0.out.trans (HB2.out.mono (Nat.le_of_lt hz))⟩
      · have g1 : decide ((⟨#[98, 111, 100, 121]⟩ : ByteArray) = t) = false := decide_eq_false fun h => hf (k4.1 h)
        have g2 : ¬ (⟨#[98, 111, 100, 121]⟩ : ByteArray).toList = t.toList := fun h => hf (n4.1 h)
        have g3 : ¬ (⟨#[98, 111, 100, 121]⟩ : ByteArray) = t := fun h => hf (k4.1 h)
        have g4 : (([98, 111, 100, 121] : List UInt8) == t.toList) = false := beq_eq_false_iff_ne.2 fun h => hf (n4.1 ((ba_toList [98, 111, 100, 121]).trans h))
        go_wp2_with fail
        go_region_held3 (fun w' => w'.cell? ⟨w.heap.size, 4, none⟩ = some (.string ⟨#[98, 111, 100, 121]⟩))
          (first | assumption | go_keep)
          (first
            | (go_simp; go_at_call 51; refine (HSM.out _).mono ?_; rintro e v1 ⟨rfl, hb⟩; (
                have HV1 := Lib.hid (show Below wr.heap.size wr v1 from (show Below wr.heap.size wr wr.drew from (Below.refl _ _).drew).trans (hb.mono (Nat.le_refl _)))
                have p0 : v1.cell? ⟨w.heap.size, 4, none⟩ = some (.string ⟨#[98, 111, 100, 121]⟩) := (HV1.out.cell (p := ⟨w.heap.size, 4, none⟩) hzr).trans d1
                clear hb))
            | fail)
        all_goals
          have HB2 := Lib.hid (HR.out.trans (HV1.out.mono HR.out.size))
          go_wp2
          go_roundw
          all_goals first
            | exact ⟨⟨5, by omega, by omega, by omega, rfl, HB2⟩, by decide⟩
            | rfl
            | exact ⟨5, by omega, by omega, by omega, rfl, HB2⟩
            | (simp [intOf] <;> omega)
    · have d1 : wr.cell? ⟨w.heap.size, 5, none⟩ = some (.string ⟨#[102, 105, 108, 101]⟩) := (HR.out.cell (p := ⟨w.heap.size, 5, none⟩) hz).trans c5
      have hzr : w.heap.size < wr.heap.size := Nat.lt_of_lt_of_le hz HR.out.size
      by_cases hf : F = 5
      · have g1 : decide ((⟨#[102, 105, 108, 101]⟩ : ByteArray) = t) = true := decide_eq_true (k5.2 hf)
        have g2 : (⟨#[102, 105, 108, 101]⟩ : ByteArray).toList = t.toList := n5.2 hf
        have g3 : (⟨#[102, 105, 108, 101]⟩ : ByteArray) = t := k5.2 hf
        go_wp2_with fail
        go_region_held3 (fun w' => w'.cell? ⟨w.heap.size, 5, none⟩ = some (.string ⟨#[102, 105, 108, 101]⟩))
          (first | assumption | go_keep)
          (first
            | (go_simp; go_at_call 51; refine (HSM.out _).mono ?_; rintro e v1 ⟨rfl, hb⟩; (
                have HV1 := Lib.hid (show Below wr.heap.size wr v1 from (show Below wr.heap.size wr wr.drew from (Below.refl _ _).drew).trans (hb.mono (Nat.le_refl _)))
                have p0 : v1.cell? ⟨w.heap.size, 5, none⟩ = some (.string ⟨#[102, 105, 108, 101]⟩) := (HV1.out.cell (p := ⟨w.heap.size, 5, none⟩) hzr).trans d1
                clear hb))
            | fail)
        all_goals
          have HB2 := Lib.hid (HR.out.trans (HV1.out.mono HR.out.size))
          go_wp2
          go_ret
          exact ⟨by rw [hf]; rfl, HB0.out.trans (HB2.out.mono (Nat.le_of_lt hz))⟩
      · have g1 : decide ((⟨#[102, 105, 108, 101]⟩ : ByteArray) = t) = false := decide_eq_false fun h => hf (k5.1 h)
        have g2 : ¬ (⟨#[102, 105, 108, 101]⟩ : ByteArray).toList = t.toList := fun h => hf (n5.1 h)
        have g3 : ¬ (⟨#[102, 105, 108, 101]⟩ : ByteArray) = t := fun h => hf (k5.1 h)
        have g4 : (([102, 105, 108, 101] : List UInt8) == t.toList) = false := beq_eq_false_iff_ne.2 fun h => hf (n5.1 ((ba_toList [102, 105, 108, 101]).trans h))
        go_wp2_with fail
        go_region_held3 (fun w' => w'.cell? ⟨w.heap.size, 5, none⟩ = some (.string ⟨#[102, 105, 108, 101]⟩))
          (first | assumption | go_keep)
          (first
            | (go_simp; go_at_call 51; refine (HSM.out _).mono ?_; rintro e v1 ⟨rfl, hb⟩; (
                have HV1 := Lib.hid (show Below wr.heap.size wr v1 from (show Below wr.heap.size wr wr.drew from (Below.refl _ _).drew).trans (hb.mono (Nat.le_refl _)))
                have p0 : v1.cell? ⟨w.heap.size, 5, none⟩ = some (.string ⟨#[102, 105, 108, 101]⟩) := (HV1.out.cell (p := ⟨w.heap.size, 5, none⟩) hzr).trans d1
                clear hb))
            | fail)
        all_goals
          have HB2 := Lib.hid (HR.out.trans (HV1.out.mono HR.out.size))
          go_wp2
          go_roundw
          all_goals first
            | exact ⟨⟨6, by omega, by omega, by omega, rfl, HB2⟩, by decide⟩
            | rfl
            | exact ⟨6, by omega, by omega, by omega, rfl, HB2⟩
            | (simp [intOf] <;> omega)
    · have hF0 : F = 0 := by omega
      go_wp2
      go_ret
      exact ⟨by rw [hF0]; rfl, HB0.out.trans (HR.out.mono (Nat.le_of_lt hz))⟩
end Go.Proofs.YtomcdhmcjndioaaGreatDoor
end
section
namespace Go.Proofs.YtomcdhmcjndioaaGreatDoor
open Go.RowKit
set_option linter.unusedVariables false

structure QTabs (w : World) : Prop where
  err : ErrVar w
  max : ∃ m, w.cell? ⟨2, 0, none⟩ = some (.int .i64 m)
  fs : fSpans w w.heap.size
  ks : kSpans w w.heap.size
  fld : ∀ j, j < 6 → w.cell? ⟨0, j, none⟩ = some (.string (ba (fieldsQ.getD j [])))
  lt : 2 < w.heap.size ∧ 6 < w.heap.size ∧ 0 < w.heap.size
theorem QTabs.below {w w' : World} (h : QTabs w) (hb : Below w.heap.size w w') : QTabs w' := by
  have hs := hb.size
  obtain ⟨l1, l2, l3⟩ := h.lt
  refine ⟨h.err.keep hb l2, ?_, (h.fs.below hb).more hs, (h.ks.below hb).more hs, fun j hj => (hb.cell (p := ⟨0, j, none⟩) l3).trans (h.fld j hj), by omega, by omega, by omega⟩
  obtain ⟨m, hm⟩ := h.max
  exact ⟨m, (hb.cell (p := ⟨2, 0, none⟩) l1).trans hm⟩
/-- The index of the first byte c, or -1. -/
def findV (c : UInt8) (l : List UInt8) : Int := match cutP c l with
  | some q => (q.1.length : Int)
  | none => -1
theorem index_find (c : UInt8) : ∀ l : List UInt8, Lib.index l [c] = findV c l
  | [] => rfl
  | x :: r => by
    have ih := index_find c r
    unfold Lib.index findV cutP
    by_cases h : x = c
    · subst h
      simp [List.isPrefixOf]
    · have h2 : List.isPrefixOf [c] (x :: r) = false := by
        simp [List.isPrefixOf]
        exact fun e => h e.symm
      rw [h2, if_neg h, ih]
      unfold findV
      cases hc : cutP c r with
      | none => rfl
      | some q =>
        show (if (false = true) then (0 : Int) else if ((q.1.length : Int) == -1) = true then -1 else (q.1.length : Int) + 1) = ((x :: q.1).length : Int)
        have : ((q.1.length : Int) == -1) = false := by simp
        rw [this]
        simp
def cutV (c : UInt8) (l : List UInt8) : List UInt8 × List UInt8 × Bool := match cutP c l with
  | some q => (q.1, q.2, true)
  | none => (l, [], false)
theorem cut_eq (c : UInt8) (l : List UInt8) : Lib.cut l [c] = cutV c l := by
  unfold Lib.cut cutV
  rw [index_find]
  unfold findV
  cases h : cutP c l with
  | none => rfl
  | some q =>
    obtain ⟨a, b⟩ := q
    have h1 := (cutP_some h).1
    show (if 0 ≤ (a.length : Int) then (l.take (a.length : Int).toNat, l.drop ((a.length : Int).toNat + 1), true) else (l, [], false)) = (a, b, true)
    rw [if_pos (by omega), h1]
    simp
def CutPost (w : World) (c : UInt8) (l : List UInt8) (e : Ending) (w' : World) : Prop := e = .returned (.tuple #[.string (ba (cutV c l).1), .string (ba (cutV c l).2.1), .bool (cutV c l).2.2]) ∧ ∃ n, w' = w.drewN n
theorem cut_any (c : UInt8) (l : List UInt8) (w : World) (hl : l.length ≤ 1000000000) (hT : QTabs w) :
    Calls Tryz.prog 42 #[.string (ba l), .string ⟨#[c]⟩] w (CutPost w c l) := by
  obtain ⟨m, hm⟩ := hT.max
  refine (Tryz.strings_Cut (ba l) ⟨#[c]⟩ m w (by rw [ba_size]; omega) hm).mono ?_
  rintro e w' ⟨rfl, hw⟩
  refine ⟨?_, hw⟩
  have e1 : Lib.cut (ba l).data.toList (⟨#[c]⟩ : ByteArray).data.toList = cutV c l := by rw [ba_list]; exact cut_eq c l
  rw [e1]
  rfl
def trimC (c : UInt8) (l : List UInt8) : List UInt8 := if l.getLast? = some c then l.dropLast else l
theorem suffix_one (c : UInt8) (l : List UInt8) : Lib.hasSuffix l [c] = decide (l.getLast? = some c) := by
  unfold Lib.hasSuffix
  rw [Bool.eq_iff_iff, decide_eq_true_iff, List.isSuffixOf_iff_suffix]
  constructor
  · rintro ⟨t, rfl⟩
    simp
  · intro h
    obtain ⟨t, ht⟩ := List.getLast?_eq_some_iff.1 h
    exact ⟨t, ht.symm⟩
theorem trimC_eq (c : UInt8) (l : List UInt8) : Lib.trimSuffix l [c] = trimC c l := by
  unfold Lib.trimSuffix trimC
  rw [suffix_one]
  by_cases h : l.getLast? = some c
  · rw [decide_eq_true h, if_pos rfl, if_pos h, List.dropLast_eq_take]
    rfl
  · rw [decide_eq_false h, if_neg h]
    rfl
theorem cutsuf_any (c : UInt8) (l : List UInt8) (w : World) (hl : l.length ≤ 1000000000) :
    Calls Tryz.prog 27 #[.string (ba l), .string ⟨#[c]⟩] w fun e w' => e = .returned (.tuple #[.string (ba (trimC c l)), .bool (decide (l.getLast? = some c))]) ∧ w' = w := by
  refine (Tryz.strings_CutSuffix (ba l) ⟨#[c]⟩ w (by rw [ba_size]; omega)).mono ?_
  rintro e w' ⟨rfl, rfl⟩
  refine ⟨?_, rfl⟩
  have e1 : Lib.trimSuffix (ba l).data.toList (⟨#[c]⟩ : ByteArray).data.toList = trimC c l := by rw [ba_list]; exact trimC_eq c l
  have e2 : Lib.hasSuffix (ba l).data.toList (⟨#[c]⟩ : ByteArray).data.toList = decide (l.getLast? = some c) := by rw [ba_list]; exact suffix_one c l
  rw [e1, e2]
  rfl
theorem num_parse (l : List UInt8) (lo hi : Int) (w : World) (hl : l.length ≤ 1000000000) (hlo : -9223372036854775808 ≤ lo) (hhi : hi ≤ 9223372036854775807) (hT : QTabs w) :
    Calls Tryz.prog 109 #[.string (ba l), .int .i64 lo, .int .i64 hi] w (ParsePost w (decP l lo hi)) := num_parse_any l lo hi w hl hlo hhi hT.err hT.lt.2.1
/-- The bytes that end a bare token, as the program lists them. -/
def edgesQ : List UInt8 := [32, 9, 13, 10, 40, 41, 34]
theorem edges_in (c : UInt8) : edgesQ.contains c = edgeQ c := by
  have h : ∀ d : UInt8, (c == d) = decide (c = d) := fun d => rfl
  unfold edgesQ edgeQ blankQ
  simp only [List.contains_cons, List.contains_nil, Bool.or_false, Bool.or_assoc]
theorem edges_idx (l : List UInt8) : (Lib.indexAny l edgesQ = -1 ∧ bareN l = l.length) ∨ (Lib.indexAny l edgesQ = (bareN l : Int) ∧ bareN l < l.length) := by
  induction l with
  | nil => exact .inl ⟨rfl, rfl⟩
  | cons a r ih =>
    unfold Lib.indexAny
    rw [edges_in]
    cases he : edgeQ a with
    | true =>
      refine .inr ?_
      have : bareN (a :: r) = 0 := by unfold bareN; rw [List.takeWhile_cons_of_neg (by rw [he]; decide)]; rfl
      rw [this]
      exact ⟨rfl, by simp⟩
    | false =>
      have hb : bareN (a :: r) = bareN r + 1 := by unfold bareN; rw [List.takeWhile_cons_of_pos (by rw [he]; rfl)]; rfl
      rw [hb, if_neg (by decide)]
      rcases ih with ⟨h1, h2⟩ | ⟨h1, h2⟩
      · rw [h1, h2]
        exact .inl ⟨rfl, rfl⟩
      · rw [h1]
        refine .inr ⟨?_, by simpa using h2⟩
        have : ((bareN r : Int) == -1) = false := by simp
        rw [this]
        simp
theorem edges_any (l : List UInt8) (hl : l.length ≤ 1000000000) (w : World) :
    Calls Tryz.prog 26 #[.string (ba l), .string ⟨#[32, 9, 13, 10, 40, 41, 34]⟩] w fun e w' => e = .returned (.int .i64 (Lib.indexAny l edgesQ)) ∧ Below w.heap.size w w' :=
  indexAny_any l edgesQ ⟨by decide, by decide, by decide⟩ hl w
end Go.Proofs.YtomcdhmcjndioaaGreatDoor
end
section
namespace Go.Proofs.YtomcdhmcjndioaaGreatDoor
open Go.RowKit
set_option linter.unusedVariables false

set_option maxRecDepth 100000 in
set_option maxHeartbeats 4000000 in
theorem indexRune_inv (l : List UInt8) (r : Int) (h1 : 55296 ≤ r) (h2 : r ≤ 57343) (w : World) :
    Calls Tryz.prog 43 #[.string (ba l), .int .i32 r] w fun e w' => e = .returned (.int .i64 (-1)) ∧ w' = w := by
  have HV := Lib.hid (Tryz.utf8_ValidRune r)
  have HVT := Lib.hid (show Lib.validRune r = false by unfold Lib.validRune; simp; omega)
  have g1 : (r == 65533) = false := by simp; omega
  have g2 : decide (r < 128) = false := decide_eq_false (by omega)
  have g3 : decide (0 ≤ r) = true := decide_eq_true (by omega)
  obtain ⟨s, hs⟩ : ∃ s, ba l = s := ⟨_, rfl⟩
  rw [hs]
  clear hs
  go_enter Tryz.func43, Tryz.ntmps43
  go_wp2_with fail
  refine (HV.out w).mono ?_
  rintro e w1 ⟨rfl, rfl⟩
  rw [HVT.out]
  go_wp2
  go_ret
  exact ⟨rfl, rfl⟩
theorem indexRune_all (l : List UInt8) (hl : Asc l) (r : Nat) (h2 : r ≤ 1114111) (w : World) :
    Calls Tryz.prog 43 #[.string (ba l), .int .i32 (r : Int)] w fun e w' => e = .returned (.int .i64 (runeIdx l r)) ∧ Below w.heap.size w w' := by
  by_cases h3 : r < 55296 ∨ 57343 < r
  · exact indexRune_any l hl r h2 h3 w
  · refine (indexRune_inv l r (by omega) (by omega) w).mono ?_
    rintro e w' ⟨rfl, rfl⟩
    refine ⟨?_, Below.refl _ _⟩
    unfold runeIdx
    rw [if_neg (by omega)]
theorem containsRune_all (l : List UInt8) (hl : Asc l) (r : Nat) (h2 : r ≤ 1114111) (w : World) :
    Calls Tryz.prog 85 #[.string (ba l), .int .i32 (r : Int)] w fun e w' => e = .returned (.bool (decide (0 ≤ runeIdx l r))) ∧ Below w.heap.size w w' := by
  have HI := Lib.hid (indexRune_all l hl r h2)
  go_enter Tryz.func85, Tryz.ntmps85
  go_wp2_with fail
  refine (HI.out _).mono ?_
  rintro e w1 ⟨rfl, hb⟩
  have HB := Lib.hid hb
  clear hb
  go_wp2
  go_ret
  exact ⟨rfl, HB.out⟩
def signsQ : List UInt8 := [36, 92, 45, 95, 46]
/-- Whether a rune may stand in a flag. -/
def flagR (r : Nat) : Bool := (decide (97 ≤ r) && decide (r ≤ 122)) || (decide (48 ≤ r) && decide (r ≤ 57)) || decide (0 ≤ runeIdx signsQ r)
theorem flagR_byte : ∀ r : Fin 128, flagR r.val = flagC (UInt8.ofNat r.val) := by decide +kernel
theorem flagR_high {r : Nat} (h : 128 ≤ r) : flagR r = false := by
  unfold flagR runeIdx
  rw [if_neg (by omega), decide_eq_false (show ¬ r ≤ 122 by omega), decide_eq_false (show ¬ r ≤ 57 by omega)]
  simp
theorem flagC_low {c : UInt8} (h : flagC c = true) : c.toNat < 128 := by
  by_cases h2 : c.toNat < 128
  · exact h2
  · exfalso
    have key : ∀ n : Fin 128, flagC (UInt8.ofNat (128 + n.val)) = false := by decide +kernel
    have h3 := key ⟨c.toNat - 128, by have := c.toNat_lt; omega⟩
    have e : UInt8.ofNat (128 + (c.toNat - 128)) = c := by
      rw [show 128 + (c.toNat - 128) = c.toNat by omega]
      simp
    dsimp only at h3
    rw [e, h] at h3
    cases h3
theorem flag_unit {l : List UInt8} {k : Nat} (hk : k < l.length) : flagR (uN (l.drop k)).1 = flagC l[k] ∧ (flagC l[k] = true → (uN (l.drop k)).2 = 1) := by
  by_cases h : (uN (l.drop k)).1 < 128
  · obtain ⟨h1, h2⟩ := uN_byte hk h
    refine ⟨?_, fun _ => h2⟩
    have := flagR_byte ⟨(uN (l.drop k)).1, h⟩
    dsimp only at this
    rw [this, h1]
    simp
  · have hf := uN_far hk (by omega) k hk (Nat.le_refl _) (by
      have hne : l.drop k ≠ [] := by intro e; have := congrArg List.length e; rw [List.length_drop] at this; simp at this; omega
      have := (uN_pos _ hne).1
      omega)
    have hc : flagC l[k] = false := by
      cases hx : flagC l[k] with
      | false => rfl
      | true => have := flagC_low hx; omega
    rw [hc, flagR_high (by omega)]
    exact ⟨rfl, fun h => by cases h⟩
theorem flag_idx (l : List UInt8) : ∀ f pos, l.length ≤ pos + f → decide (0 ≤ Lib.idxFuncFrom (fun r => !flagR r) true (ba l) f pos) = !((l.drop pos).all flagC)
  | 0, pos, h => by
    rw [List.drop_of_length_le (by omega)]
    rfl
  | f + 1, pos, h => by
    unfold Lib.idxFuncFrom
    by_cases hp : pos < (ba l).size
    · have hk : pos < l.length := by rw [← ba_size]; exact hp
      rw [if_pos hp, uN_at]
      obtain ⟨h1, h2⟩ := flag_unit hk
      rw [List.drop_eq_getElem_cons hk, List.all_cons, ← List.drop_eq_getElem_cons hk]
      by_cases hc : flagC l[pos] = true
      · rw [h1, hc, h2 hc, if_neg (by decide), flag_idx l f (pos + 1) (by omega), Bool.true_and]
      · have hc2 : flagC l[pos] = false := by simpa using hc
        rw [h1, hc2, if_pos (by rfl), Bool.false_and]
        simp
    · rw [if_neg hp, List.drop_of_length_le (by rw [← ba_size]; omega)]
      rfl
set_option maxRecDepth 100000 in
set_option maxHeartbeats 4000000 in
theorem flag1_any (r : Nat) (h2 : r ≤ 1114111) (w : World) :
    Calls Tryz.prog 84 #[.int .i32 (r : Int)] w fun e w' => e = .returned (.bool (!flagR r)) ∧ Below w.heap.size w w' := by
  have HC := Lib.hid (show ∀ W, Calls Tryz.prog 85 #[.string ⟨#[36, 92, 45, 95, 46]⟩, .int .i32 (r : Int)] W fun e w' => e = .returned (.bool (decide (0 ≤ runeIdx signsQ r))) ∧ Below W.heap.size W w' from fun W => containsRune_all signsQ ⟨by decide, by decide, by decide⟩ r h2 W)
  obtain ⟨v, hv⟩ : ∃ v, decide (0 ≤ runeIdx signsQ r) = v := ⟨_, rfl⟩
  have HF := Lib.hid (show flagR r = ((decide (97 ≤ (r : Int)) && decide ((r : Int) ≤ 122)) || (decide (48 ≤ (r : Int)) && decide ((r : Int) ≤ 57)) || v) by
    unfold flagR
    rw [hv]
    congr 2
    · rw [show decide (97 ≤ (r : Int)) = decide (97 ≤ r) from by rw [Bool.eq_iff_iff, decide_eq_true_iff, decide_eq_true_iff]; omega, show decide ((r : Int) ≤ 122) = decide (r ≤ 122) from by rw [Bool.eq_iff_iff, decide_eq_true_iff, decide_eq_true_iff]; omega]
    · rw [show decide (48 ≤ (r : Int)) = decide (48 ≤ r) from by rw [Bool.eq_iff_iff, decide_eq_true_iff, decide_eq_true_iff]; omega, show decide ((r : Int) ≤ 57) = decide (r ≤ 57) from by rw [Bool.eq_iff_iff, decide_eq_true_iff, decide_eq_true_iff]; omega])
  simp only [hv] at HC
  obtain ⟨x, hx⟩ : ∃ x : Int, (r : Int) = x := ⟨_, rfl⟩
  simp only [hx] at HC HF
  rw [hx]
  have x0 : 0 ≤ x := by omega
  clear hv hx
  by_cases a1 : 97 ≤ x ∧ x ≤ 122
  · have g1 : decide (97 ≤ x) = true := decide_eq_true a1.1
    have g2 : decide (x ≤ 122) = true := decide_eq_true a1.2
    have HR := Lib.hid (show (!flagR r) = false by rw [HF.out, g1, g2]; rfl)
    clear a1
    go_enter Tryz.func84, Tryz.ntmps84
    go_wp2
    go_ret
    exact ⟨by rw [HR.out]; rfl, Below.refl _ _⟩
  · by_cases a2 : 48 ≤ x ∧ x ≤ 57
    · have g1 : decide (97 ≤ x) = false := decide_eq_false (by omega)
      have g2 : decide (48 ≤ x) = true := decide_eq_true a2.1
      have g3 : decide (x ≤ 57) = true := decide_eq_true a2.2
      have HR := Lib.hid (show (!flagR r) = false by rw [HF.out, g1, g2, g3]; rfl)
      clear a1 a2
      go_enter Tryz.func84, Tryz.ntmps84
      go_wp2
      go_ret
      exact ⟨by rw [HR.out]; rfl, Below.refl _ _⟩
    · have HR := Lib.hid (show flagR r = v by
        rw [HF.out]
        have e1 : (decide (97 ≤ x) && decide (x ≤ 122)) = false := by
          cases h : (decide (97 ≤ x) && decide (x ≤ 122)) with
          | false => rfl
          | true => simp at h; exact absurd h a1
        have e2 : (decide (48 ≤ x) && decide (x ≤ 57)) = false := by
          cases h : (decide (48 ≤ x) && decide (x ≤ 57)) with
          | false => rfl
          | true => simp at h; exact absurd h a2
        rw [e1, e2]
        rfl)
      by_cases b1 : x < 48
      · have g1 : decide (97 ≤ x) = false := decide_eq_false (by omega)
        have g2 : decide (48 ≤ x) = false := decide_eq_false (by omega)
        clear a1 a2 b1
        go_enter Tryz.func84, Tryz.ntmps84
        go_wp2_with fail
        refine (HC.out w).mono ?_
        rintro e w1 ⟨rfl, hb⟩
        have HB := Lib.hid hb
        clear hb
        go_wp2
        go_ret
        exact ⟨by rw [HR.out]; rfl, HB.out⟩
      · by_cases b2 : x < 97
        · have g1 : decide (97 ≤ x) = false := decide_eq_false (by omega)
          have g2 : decide (48 ≤ x) = true := decide_eq_true (by omega)
          have g3 : decide (x ≤ 57) = false := decide_eq_false (by omega)
          clear a1 a2 b1 b2
          go_enter Tryz.func84, Tryz.ntmps84
          go_wp2_with fail
          refine (HC.out w).mono ?_
          rintro e w1 ⟨rfl, hb⟩
          have HB := Lib.hid hb
          clear hb
          go_wp2
          go_ret
          exact ⟨by rw [HR.out]; rfl, HB.out⟩
        · have g1 : decide (97 ≤ x) = true := decide_eq_true (by omega)
          have g4 : decide (x ≤ 122) = false := decide_eq_false (by omega)
          have g2 : decide (48 ≤ x) = true := decide_eq_true (by omega)
          have g3 : decide (x ≤ 57) = false := decide_eq_false (by omega)
          clear a1 a2 b1 b2
          go_enter Tryz.func84, Tryz.ntmps84
          go_wp2_with fail
          refine (HC.out w).mono ?_
          rintro e w1 ⟨rfl, hb⟩
          have HB := Lib.hid hb
          clear hb
          go_wp2
          go_ret
          exact ⟨by rw [HR.out]; rfl, HB.out⟩
set_option maxRecDepth 100000 in
set_option maxHeartbeats 4000000 in
theorem qflag_any (l : List UInt8) (w : World) :
    Calls Tryz.prog 58 #[.string (ba l)] w fun e w' => e = .returned (.bool (flagQ l)) ∧ Below w.heap.size w w' := by
  have HC := Lib.hid (fun W => Tryz.strings_ContainsFunc_grows 84 #[] (fun _ _ => by rfl) (fun r => !flagR r) (ba l) W (fun W' x hx _ => flag1_any x hx W'))
  have HV := Lib.hid (show decide (0 ≤ Lib.idxFunc (fun r => !flagR r) true (ba l)) = !(l.all flagC) from flag_idx l (ba l).size 0 (by rw [ba_size]; omega))
  have HQ := Lib.hid (show flagQ l = (decide (1 ≤ l.length) && decide (l.length ≤ 30) && l.all flagC) from rfl)
  obtain ⟨v, hv⟩ : ∃ v, decide (0 ≤ Lib.idxFunc (fun r => !flagR r) true (ba l)) = v := ⟨_, rfl⟩
  simp only [hv] at HC HV
  clear hv
  by_cases h0 : l.length = 0
  · have gz : (ba l).toList.isEmpty = true := by rw [ba_toList, List.eq_nil_of_length_eq_zero h0]; rfl
    have HR := Lib.hid (show flagQ l = false by rw [HQ.out, h0]; rfl)
    clear h0
    go_enter Tryz.func58, Tryz.ntmps58
    go_wp2
    go_ret
    exact ⟨by rw [HR.out]; rfl, Below.refl _ _⟩
  · have gz : (ba l).toList.isEmpty = false := by
      rw [ba_toList]
      cases l with
      | nil => exact absurd rfl h0
      | cons a r => rfl
    by_cases h1 : l.length ≤ 30
    · have g1 : decide (((ba l).size : Int) ≤ 30) = true := decide_eq_true (by rw [ba_size]; omega)
      have HR := Lib.hid (show flagQ l = !v by rw [HQ.out, HV.out, decide_eq_true (show 1 ≤ l.length by omega), decide_eq_true h1]; simp)
      obtain ⟨s, hs⟩ : ∃ s, ba l = s := ⟨_, rfl⟩
      simp only [hs] at HC gz g1
      rw [hs]
      clear h0 h1 hs HV HQ
      go_enter Tryz.func58, Tryz.ntmps58
      go_wp2_with fail
      refine (HC.out w).mono ?_
      rintro e w1 ⟨rfl, hb⟩
      have HB := Lib.hid hb
      clear hb
      go_wp2
      go_ret
      exact ⟨by rw [HR.out]; rfl, HB.out⟩
    · have g1 : decide (((ba l).size : Int) ≤ 30) = false := decide_eq_false (by rw [ba_size]; omega)
      have HR := Lib.hid (show flagQ l = false by rw [HQ.out, decide_eq_false h1]; simp)
      obtain ⟨s, hs⟩ : ∃ s, ba l = s := ⟨_, rfl⟩
      simp only [hs] at gz g1
      rw [hs]
      clear h0 h1 hs HV HQ HC
      go_enter Tryz.func58, Tryz.ntmps58
      go_wp2
      go_ret
      exact ⟨by rw [HR.out]; rfl, Below.refl _ _⟩
end Go.Proofs.YtomcdhmcjndioaaGreatDoor
end
section
namespace Go.Proofs.YtomcdhmcjndioaaGreatDoor
open Go.RowKit
set_option linter.unusedVariables false

theorem sizeQ_eq (l : List UInt8) : sizeQ l = (decP (if 1 < timesQ l then l.dropLast else l) 0 1048576).map (· * timesQ l) := rfl
theorem or_low (c : UInt8) : (bits BinOp.or IntKind.u8 (c.toNat : Int) 32 == 107) = decide (c = 75 ∨ c = 107) ∧ (bits BinOp.or IntKind.u8 (c.toNat : Int) 32 == 109) = decide (c = 77 ∨ c = 109) := by
  have key : ∀ n : Fin 256, (bits BinOp.or IntKind.u8 ((UInt8.ofNat n.val).toNat : Int) 32 == 107) = decide (UInt8.ofNat n.val = 75 ∨ UInt8.ofNat n.val = 107) ∧ (bits BinOp.or IntKind.u8 ((UInt8.ofNat n.val).toNat : Int) 32 == 109) = decide (UInt8.ofNat n.val = 77 ∨ UInt8.ofNat n.val = 109) := by decide +kernel
  have h := key ⟨c.toNat, c.toNat_lt⟩
  simpa using h
theorem size_none {l x : List UInt8} (hx : (if 1 < timesQ l then l.dropLast else l) = x) (h : decP x 0 1048576 = none) : sizeQ l = none := by rw [sizeQ_eq, hx, h]; rfl
theorem size_some {l x : List UInt8} {v t : Int} (hx : (if 1 < timesQ l then l.dropLast else l) = x) (ht : timesQ l = t) (h : decP x 0 1048576 = some v) : sizeQ l = some (v * t) := by rw [sizeQ_eq, hx, h, ht]; rfl
theorem decP_bd {l : List UInt8} {lo hi v : Int} (h : decP l lo hi = some v) : lo ≤ v ∧ v ≤ hi := by
  rw [decP_eq] at h
  split at h
  · rename_i h1
    injection h with h
    rw [← h]
    exact h1.2
  · cases h
theorem times_last {l : List UInt8} {c : UInt8} (h : l.getLast? = some c) : timesQ l = if c = 75 ∨ c = 107 then 1024 else if c = 77 ∨ c = 109 then 1048576 else 1 := by
  unfold timesQ
  rw [h]
theorem lastQ {l : List UInt8} (h : 0 < l.length) : l.getLast? = some (l[l.length - 1]'(by omega)) := by rw [List.getLast?_eq_getElem?, List.getElem?_eq_getElem (by omega)]
set_option maxRecDepth 100000 in
set_option maxHeartbeats 4000000 in
theorem qsize_any (l : List UInt8) (w : World) (hl : l.length ≤ 1000000) (hT : QTabs w) :
    Calls Tryz.prog 88 #[.string (ba l)] w (ParsePost w (sizeQ l)) := by
  have HT := Lib.hid hT
  have HNP := Lib.hid (fun x (hx : x.length ≤ 1000000) W (hW : QTabs W) => num_parse x 0 1048576 W (by omega) (by omega) (by omega) hW)
  unfold ParsePost at HNP
  by_cases hl0 : l.length = 0
  · have gz : (ba l).toList.isEmpty = true := by rw [ba_toList, List.eq_nil_of_length_eq_zero hl0]; rfl
    have hnil := List.eq_nil_of_length_eq_zero hl0
    have HXX := Lib.hid (show (if 1 < timesQ l then l.dropLast else l) = l by rw [hnil]; rfl)
    have HTI := Lib.hid (show timesQ l = 1 by rw [hnil]; rfl)
    clear hnil hl0
    cases hd : decP l 0 1048576 with
    | none =>
      have HR := Lib.hid (size_none HXX.out hd)
      have HD := Lib.hid hd
      clear hd
      go_enter Tryz.func88, Tryz.ntmps88
      go_wp2_with fail
      refine (HNP.out l (by exact hl) w HT.out).mono ?_
      rintro e w1 ⟨rfl, hb⟩
      have HB := Lib.hid hb
      clear hb
      rw [HD.out]
      go_wp2
      go_ret2
      exact parse_none HR.out HB.out
    | some v =>
      have HR := Lib.hid (size_some HXX.out HTI.out hd)
      have HD := Lib.hid hd
      obtain ⟨v0, v1⟩ := decP_bd hd
      clear hd
      go_enter Tryz.func88, Tryz.ntmps88
      go_wp2_with fail
      refine (HNP.out l (by exact hl) w HT.out).mono ?_
      rintro e w1 ⟨rfl, hb⟩
      have HB := Lib.hid hb
      clear hb
      rw [HD.out]
      go_wp2
      go_ret2
      exact parse_some (HR.out.trans (congrArg some (by omega))) HB.out
  · have hla := lastQ (l := l) (by omega)
    obtain ⟨n, hn⟩ : ∃ n, l.length = n := ⟨_, rfl⟩
    have gz : (ba l).toList.isEmpty = false := by
      rw [ba_toList]
      cases l with
      | nil => exact absurd rfl hl0
      | cons a r => rfl
    have HCU := Lib.hid (show (ba l).extract 0 (n - 1) = ba l.dropLast by rw [ba_cut, List.drop_zero, List.dropLast_eq_take, hn])
    obtain ⟨c, hc⟩ : ∃ c, l[l.length - 1]'(by omega) = c := ⟨_, rfl⟩
    rw [hc] at hla
    have HTM := Lib.hid (times_last hla)
    obtain ⟨s, hss⟩ : ∃ s, ba l = s := ⟨_, rfl⟩
    have hsz : (s.size : Int) = n := by rw [← hss, ba_size, hn]
    obtain ⟨x, hx⟩ : ∃ x : Int, (c.toNat : Int) = x := ⟨_, rfl⟩
    obtain ⟨ks, kg⟩ : ∃ h : n - 1 < s.size, ((s[n - 1]'h).toNat : Int) = x := by
      subst hn
      refine ⟨by rw [← hss, ba_size]; omega, ?_⟩
      subst hss
      rw [← hx, ← hc]
      rfl
    simp only [hss] at gz HCU
    have hn6 : n ≤ 1000000 := by omega
    have hn1 : 1 ≤ n := by omega
    have k0 : (0 : Int) ≤ (n : Int) - 1 := by omega
    have k1 : (n : Int) - 1 < (n : Int) := by omega
    have k2 : (n : Int) - 1 ≤ (n : Int) := by omega
    have k3 : ((n : Int) - 1).toNat = n - 1 := by omega
    have x0 : 0 ≤ x := by omega
    have x1 : x ≤ 255 := by have := c.toNat_lt; omega
    have HX := Lib.hid hx
    have HSS := Lib.hid hss
    rw [hss]
    clear hla hc hss hn hx hl0
    obtain ⟨o1, o2⟩ := or_low c
    rw [HX.out] at o1 o2
    by_cases ck : c = 75 ∨ c = 107
    · rw [decide_eq_true ck] at o1
      have HTI := Lib.hid (show timesQ l = 1024 by rw [HTM.out, if_pos ck])
      have HXX := Lib.hid (show (if 1 < timesQ l then l.dropLast else l) = l.dropLast by rw [HTI.out]; rfl)
      clear ck o2
      cases hd : decP l.dropLast 0 1048576 with
      | none =>
        have HR := Lib.hid (size_none HXX.out hd)
        have HD := Lib.hid hd
        clear hd
        go_enter Tryz.func88, Tryz.ntmps88
        go_wp2_with fail
        rw [HCU.out]
        refine (HNP.out l.dropLast (by rw [List.length_dropLast]; omega) w HT.out).mono ?_
        rintro e w1 ⟨rfl, hb⟩
        have HB := Lib.hid hb
        clear hb
        rw [HD.out]
        go_wp2
        go_ret2
        exact parse_none HR.out HB.out
      | some v =>
        have HR := Lib.hid (size_some HXX.out HTI.out hd)
        have HD := Lib.hid hd
        obtain ⟨v0, v1⟩ := decP_bd hd
        clear hd
        go_enter Tryz.func88, Tryz.ntmps88
        go_wp2_with fail
        rw [HCU.out]
        refine (HNP.out l.dropLast (by rw [List.length_dropLast]; omega) w HT.out).mono ?_
        rintro e w1 ⟨rfl, hb⟩
        have HB := Lib.hid hb
        clear hb
        rw [HD.out]
        go_wp2
        go_ret2
        exact parse_some (HR.out.trans (congrArg some (by omega))) HB.out
    · rw [decide_eq_false ck] at o1
      by_cases cm : c = 77 ∨ c = 109
      · rw [decide_eq_true cm] at o2
        have HTI := Lib.hid (show timesQ l = 1048576 by rw [HTM.out, if_neg ck, if_pos cm])
        have HXX := Lib.hid (show (if 1 < timesQ l then l.dropLast else l) = l.dropLast by rw [HTI.out]; rfl)
        clear ck cm
        cases hd : decP l.dropLast 0 1048576 with
        | none =>
          have HR := Lib.hid (size_none HXX.out hd)
          have HD := Lib.hid hd
          clear hd
          go_enter Tryz.func88, Tryz.ntmps88
          go_wp2_with fail
          rw [HCU.out]
          refine (HNP.out l.dropLast (by rw [List.length_dropLast]; omega) w HT.out).mono ?_
          rintro e w1 ⟨rfl, hb⟩
          have HB := Lib.hid hb
          clear hb
          rw [HD.out]
          go_wp2
          go_ret2
          exact parse_none HR.out HB.out
        | some v =>
          have HR := Lib.hid (size_some HXX.out HTI.out hd)
          have HD := Lib.hid hd
          obtain ⟨v0, v1⟩ := decP_bd hd
          clear hd
          go_enter Tryz.func88, Tryz.ntmps88
          go_wp2_with fail
          rw [HCU.out]
          refine (HNP.out l.dropLast (by rw [List.length_dropLast]; omega) w HT.out).mono ?_
          rintro e w1 ⟨rfl, hb⟩
          have HB := Lib.hid hb
          clear hb
          rw [HD.out]
          go_wp2
          go_ret2
          exact parse_some (HR.out.trans (congrArg some (by omega))) HB.out
      · rw [decide_eq_false cm] at o2
        have HTI := Lib.hid (show timesQ l = 1 by rw [HTM.out, if_neg ck, if_neg cm])
        have HXX := Lib.hid (show (if 1 < timesQ l then l.dropLast else l) = l by rw [HTI.out]; rfl)
        clear ck cm
        cases hd : decP l 0 1048576 with
        | none =>
          have HR := Lib.hid (size_none HXX.out hd)
          have HD := Lib.hid hd
          clear hd
          go_enter Tryz.func88, Tryz.ntmps88
          go_wp2_with fail
          rw [← HSS.out]
          refine (HNP.out l (by exact hl) w HT.out).mono ?_
          rintro e w1 ⟨rfl, hb⟩
          have HB := Lib.hid hb
          clear hb
          rw [HD.out]
          go_wp2
          go_ret2
          exact parse_none HR.out HB.out
        | some v =>
          have HR := Lib.hid (size_some HXX.out HTI.out hd)
          have HD := Lib.hid hd
          obtain ⟨v0, v1⟩ := decP_bd hd
          clear hd
          go_enter Tryz.func88, Tryz.ntmps88
          go_wp2_with fail
          rw [← HSS.out]
          refine (HNP.out l (by exact hl) w HT.out).mono ?_
          rintro e w1 ⟨rfl, hb⟩
          have HB := Lib.hid hb
          clear hb
          rw [HD.out]
          go_wp2
          go_ret2
          exact parse_some (HR.out.trans (congrArg some (by omega))) HB.out
end Go.Proofs.YtomcdhmcjndioaaGreatDoor
end
section
namespace Go.Proofs.YtomcdhmcjndioaaGreatDoor
open Go.RowKit
set_option linter.unusedVariables false

def CivPt (n y m d : Int) : Prop := ∃ q o Y i K : Int, (n + 719468) / 146097 = q ∧ (n + 719468) % 146097 = o ∧ (o - o / 1460 + o / 36524 - o / 146096) / 365 = Y ∧ o - (365 * Y + Y / 4 - Y / 100) = i ∧ (5 * i + 2) / 153 = K ∧
  0 ≤ o ∧ o < 146097 ∧ 0 ≤ Y ∧ Y ≤ 399 ∧ 0 ≤ i ∧ i ≤ 365 ∧ 0 ≤ K ∧ K ≤ 11 ∧ 0 ≤ q ∧ q ≤ 30 ∧ q * 400 + Y + (if (K + 2) % 12 + 1 < 3 then 1 else 0) = y ∧ (K + 2) % 12 + 1 = m ∧ i - (153 * K + 2) / 5 + 1 = d
/-- From the parts of a March year. -/
theorem civ_ofp (z mp d : Int) (hz0 : 0 ≤ z) (hm0 : 0 ≤ mp) (hm : mp ≤ 11) (hd : 1 ≤ d)
    (hl : d ≤ (if mp = 11 then (if (z + 1) % 4 = 0 ∧ ((z + 1) % 100 ≠ 0 ∨ (z + 1) % 400 = 0) then 29 else 28) else if mp = 1 ∨ mp = 3 ∨ mp = 6 ∨ mp = 8 then 30 else 31))
    (n : Int) (hn : n = z / 400 * 146097 + z % 400 * 365 + z % 400 / 4 - z % 400 / 100 + ((153 * mp + 2) / 5 + d - 1) - 719468) (hn1 : -719162 ≤ n) (hn2 : n ≤ 2932896) :
    CivPt n (z + (if (mp + 2) % 12 + 1 < 3 then 1 else 0)) ((mp + 2) % 12 + 1) d := by
  obtain ⟨i, hi⟩ : ∃ i, (153 * mp + 2) / 5 + d - 1 = i := ⟨_, rfl⟩
  have hd31 : d ≤ 31 := by revert hl; repeat' split <;> intro hl <;> omega
  have hk : (5 * i + 2) / 153 = mp := by
    have hd30 : mp = 1 ∨ mp = 3 ∨ mp = 6 ∨ mp = 8 → d ≤ 30 := fun h => by
      rw [if_neg (by omega), if_pos h] at hl; exact hl
    have hd29 : mp = 11 → d ≤ 29 := fun h => by
      rw [if_pos h] at hl; split at hl <;> omega
    rcases (show mp = 0 ∨ mp = 1 ∨ mp = 2 ∨ mp = 3 ∨ mp = 4 ∨ mp = 5 ∨ mp = 6 ∨ mp = 7 ∨ mp = 8 ∨ mp = 9 ∨ mp = 10 ∨ mp = 11 by omega) with h | h | h | h | h | h | h | h | h | h | h | h <;> subst h <;> first | omega | (have := hd30 (by omega); omega) | (have := hd29 rfl; omega)
  have hi0 : 0 ≤ i := by omega
  have hi5 : i ≤ 365 ∧ (i = 365 → (z + 1) % 4 = 0 ∧ ((z + 1) % 100 ≠ 0 ∨ (z + 1) % 400 = 0)) := by
    by_cases h11 : mp = 11
    · rw [if_pos h11] at hl
      subst h11
      split at hl
      · rename_i h; exact ⟨by omega, fun _ => h⟩
      · exact ⟨by omega, fun _ => by omega⟩
    · exact ⟨by omega, fun _ => by omega⟩
  obtain ⟨o, ho⟩ : ∃ o, o = 365 * (z % 400) + z % 400 / 4 - z % 400 / 100 + i := ⟨_, rfl⟩
  obtain ⟨hy, ho0, ho1⟩ := yoe_back (z % 400) i (by omega) (by omega) hi0 hi5.1 (fun e => by have := hi5.2 e; omega) o ho
  have hno : n + 719468 = z / 400 * 146097 + o := by rw [hn, hi]; omega
  have hmod : (n + 719468) % 146097 = o := by rw [hno]; omega
  have hdiv : (n + 719468) / 146097 = z / 400 := by rw [hno]; omega
  have hins : o - (365 * (z % 400) + z % 400 / 4 - z % 400 / 100) = i := by omega
  have h1 : z / 400 * 400 + z % 400 = z := by omega
  have h2 : i - (153 * mp + 2) / 5 + 1 = d := by omega
  have hq : z / 400 ≤ 30 := by omega
  have hq0 : 0 ≤ z / 400 := by omega
  have hz4 : 0 ≤ z % 400 ∧ z % 400 ≤ 399 := by omega
  exact ⟨z / 400, o, z % 400, i, mp, hdiv, hmod, hy, hins, hk, ho0, ho1, hz4.1, hz4.2, hi0, hi5.1, hm0, hm, hq0, hq, by rw [h1], rfl, h2⟩
theorem civ_dayp {y m d : Nat} (h : dateB y m d = true) : CivPt (dayQ y m d) y m d := by
  have hin := day_in h
  unfold dateB at h
  simp only [Bool.and_eq_true, decide_eq_true_eq] at h
  obtain ⟨⟨⟨⟨⟨h1, h2⟩, h3⟩, h4⟩, h5⟩, h6⟩ := h
  have hl : leapQ y = true ↔ (y % 4 = 0 ∧ (y % 100 ≠ 0 ∨ y % 400 = 0)) := by unfold leapQ; simp
  rcases (show m < 3 ∨ 3 ≤ m by omega) with hm | hm
  · have hn : dayQ y m d = ((y : Int) - 1) / 400 * 146097 + ((y : Int) - 1) % 400 * 365 + ((y : Int) - 1) % 400 / 4 - ((y : Int) - 1) % 400 / 100 + ((153 * ((m : Int) + 9) + 2) / 5 + d - 1) - 719468 := by
      rw [← cnt_day y m d h1 h3 h4 h5]
      unfold cntP
      dsimp only
      rw [if_pos (by omega), show ((m : Int) + 9) % 12 = (m : Int) + 9 by omega]
    have hx := civ_ofp ((y : Int) - 1) ((m : Int) + 9) d (by omega) (by omega) (by omega) (by omega) (by
      have e : (y : Int) - 1 + 1 = y := by omega
      rw [e]
      rcases (show m = 1 ∨ m = 2 by omega) with h | h <;> subst h
      · rw [if_neg (by decide), if_neg (by decide)]
        have := mon_le y 1; omega
      · rw [if_pos (by decide)]
        unfold monQ at h6
        rw [if_pos rfl] at h6
        split
        · split at h6 <;> omega
        · rename_i hb
          rw [if_neg (fun e => hb (by have := hl.1 e; omega))] at h6
          omega) (dayQ y m d) hn (by omega) (by omega)
    rw [show ((m : Int) + 9 + 2) % 12 + 1 = m by omega, if_pos (by omega), show (y : Int) - 1 + 1 = y by omega] at hx
    exact hx
  · have hn : dayQ y m d = (y : Int) / 400 * 146097 + (y : Int) % 400 * 365 + (y : Int) % 400 / 4 - (y : Int) % 400 / 100 + ((153 * ((m : Int) - 3) + 2) / 5 + d - 1) - 719468 := by
      rw [← cnt_day y m d h1 h3 h4 h5]
      unfold cntP
      dsimp only
      rw [if_neg (by omega), show ((m : Int) + 9) % 12 = (m : Int) - 3 by omega]
    have hx := civ_ofp (y : Int) ((m : Int) - 3) d (by omega) (by omega) (by omega) (by omega) (by
      unfold monQ at h6
      rw [if_neg (by omega)] at h6
      rw [if_neg (by omega)]
      split
      · rw [if_pos (by omega)] at h6; omega
      · rw [if_neg (by omega)] at h6; omega) (dayQ y m d) hn (by omega) (by omega)
    rw [show ((m : Int) - 3 + 2) % 12 + 1 = m by omega, if_neg (by omega), show (y : Int) + 0 = y by omega] at hx
    exact hx
end Go.Proofs.YtomcdhmcjndioaaGreatDoor
end
