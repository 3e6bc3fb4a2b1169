/- Layer 34: the reference's Bytes and Same. -/
import Derived.Test.YtfinpehbpcckaaaGreatDoorRSegC
import Derived.Test.YtfinpehbpcckaaaGreatDoorM15
import Derived.Deep.RegionHeld3
import Derived.Deep.DrawnRows
namespace Go.Proofs.YtfinpehbpcckaaaGreatDoor
open Go.RowKit
set_option linter.unusedVariables false
attribute [local go_sem ↓] Go.wp_at_zero Go.wp_at_succ

set_option maxRecDepth 100000 in
set_option maxHeartbeats 16000000 in
theorem rseg_bytes (A D : Option Addr) (n c m d : Nat) (s : Seg) (w : World) (h : SegIn w w.heap.size A n c D m d s) (hf : SegFew s) :
    Calls Tryz.prog 15 #[.agg #[.slice A n c, .slice D m d]] w (StrPost w (bytesP s)) := by
  have H := Lib.hid h
  have HF := Lib.hid hf
  have hn9 : n ≤ 5000 := by rw [← h.terms.len]; exact hf.terms
  have hm9 : m ≤ 1000000 := by rw [← h.docs.len]; exact hf.docs
  have HN := Lib.hid h.terms.len
  have hfield : ∀ t, t ∈ s.terms → t.field ≤ 9223372036854775807 := fun t h1 => by
    obtain ⟨j, hj, rfl⟩ := List.getElem_of_mem h1
    obtain ⟨ad, e, _, _, _, _, hb⟩ := h.terms.2 j hj
    exact hb.2
  have HLEN := Lib.hid (fun k => YAcc_len hf (fun x hx => (h.docs.2.1 x hx).2) hfield k)
  have HNUMS := Lib.hid (fun W (hb : Below w.heap.size w W) => rnums_any D m d s.docs W ((h.docs.below hb).more hb.size) (by omega))
  clear h hf hfield
  go_enter Tryz.func15, Tryz.ntmps15
  have hb1 : Below w.heap.size w (w.alloc (.cells #[.slice A n c, .slice D m d] 28)) := (Below.refl _ _).alloc (Nat.le_refl _) _
  have c1a : (w.alloc (.cells #[.slice A n c, .slice D m d] 28)).cell? ⟨w.heap.size, 0, none⟩ = some (.slice A n c) := by go_simp
  have c1b : (w.alloc (.cells #[.slice A n c, .slice D m d] 28)).cell? ⟨w.heap.size, 1, none⟩ = some (.slice D m d) := by go_simp
  have hz1 : (w.alloc (.cells #[.slice A n c, .slice D m d] 28)).heap.size = w.heap.size + 1 := by simp
  have HR := Lib.hid (rseg_right A D n c m d s (w.alloc (.cells #[.slice A n c, .slice D m d] 28)) ((H.out.below hb1).more hb1.size) HF.out)
  go_wp2_with fail
  refine HR.out.mono ?_
  rintro e w1 ⟨rfl, hbr⟩
  have hb2 : Below w.heap.size w w1 := hb1.trans (hbr.mono (by omega))
  have c2a : w1.cell? ⟨w.heap.size, 0, none⟩ = some (.slice A n c) := (hbr.cell (p := ⟨w.heap.size, 0, none⟩) (by show w.heap.size < _; omega)).trans c1a
  have c2b : w1.cell? ⟨w.heap.size, 1, none⟩ = some (.slice D m d) := (hbr.cell (p := ⟨w.heap.size, 1, none⟩) (by show w.heap.size < _; omega)).trans c1b
  have hz2 : w.heap.size + 1 ≤ w1.heap.size := by have := hbr.size; omega
  have HB2 := Lib.hid hb2
  obtain ⟨rt, hrt⟩ : ∃ rt, rightP s = rt := ⟨_, rfl⟩
  have HRT := Lib.hid hrt
  rw [hrt]
  obtain ⟨g, hg⟩ : ∃ g, w.heap.size = g := ⟨_, rfl⟩
  rw [hg] at c2a c2b hz2
  have HG := Lib.hid hg
  clear hb1 c1a c1b hz1 hbr hb2 hrt HR
  cases rt
  · have HFP := Lib.hid (show bytesP s = [] by unfold bytesP; rw [HRT.out]; rfl)
    clear c2a c2b
    go_wp2
    go_ret
    exact ⟨by rw [HFP.out]; rfl, HB2.out⟩
  have HFP := Lib.hid (show bytesP s = YAcc s s.terms.length by unfold bytesP YAcc; rw [HRT.out, List.take_length]; rfl)
  have hl0 := HLEN.out 0
  have hacc0 : YAcc s 0 = vints s.docs ++ vnum n := by unfold YAcc; rw [HN.out]; simp
  rw [hacc0] at hl0
  have HACC0 := Lib.hid hacc0
  rw [List.length_append] at hl0
  clear hacc0
  have hcat1 : ¬ 9223372036854775807 < (ba (vints s.docs)).size + (ba (vint (n : Int))).size := by rw [ba_size, ba_size, vint_nat]; omega
  have hnn : (n : Int) ≤ 9223372036854775807 := by omega
  have hgw : g < w1.heap.size := by omega
  go_wp2
  clear hg
  go_region_held3 (fun w' => w'.cell? ⟨g, 0, none⟩ = some (.slice A n c) ∧ w'.cell? ⟨g, 1, none⟩ = some (.slice D m d))
    (first | (go_split_ands; refine ⟨?_, ?_⟩ <;> first | assumption | go_keep))
    (first
      | (go_simp; go_at_call 51; refine (HNUMS.out _ (Below.drew HB2.out)).mono ?_; rintro e w2 ⟨rfl, hbel⟩; (
          have HB3 := Lib.hid (show Below w1.heap.size w1 w2 from (Below.drew (Below.refl _ _)).trans hbel)
          have c4a : w2.cell? ⟨g, 0, none⟩ = some (.slice A n c) := (HB3.out.cell (p := ⟨g, 0, none⟩) hgw).trans c2a
          have c4b : w2.cell? ⟨g, 1, none⟩ = some (.slice D m d) := (HB3.out.cell (p := ⟨g, 1, none⟩) hgw).trans c2b
          clear hbel))
      | (go_simp; go_at_call 52; refine (rnum_any (n : Int) _ hnn).mono ?_; rintro e w3 ⟨rfl, hbel⟩; (
          have HB4 := Lib.hid (show Below w1.heap.size w1 w3 from HB3.out.trans (hbel.mono HB3.out.size))
          have c5a : w3.cell? ⟨g, 0, none⟩ = some (.slice A n c) := (HB4.out.cell (p := ⟨g, 0, none⟩) hgw).trans c2a
          have c5b : w3.cell? ⟨g, 1, none⟩ = some (.slice D m d) := (HB4.out.cell (p := ⟨g, 1, none⟩) hgw).trans c2b
          clear hbel)))
  all_goals
    rw [ba_append, vint_nat, ← HACC0.out]
    clear hcat1 hl0 hnn c2b c4b c4a c5b
    go_wp2
    go_loopw [3, 4] (fun v i wr => ∃ k : Nat, k ≤ n ∧ i = .int .i64 (k : Int) ∧ v = .string (ba (YAcc s k)) ∧ Hid (Below w1.heap.size w1 wr)) (fun _ i _ => n - (intOf i).toNat)
    case atStart => exact ⟨0, Nat.zero_le _, rfl, rfl, HB4.out⟩
    case round =>
      obtain ⟨k, hk, rfl, rfl, HR⟩ := hrel
      have hsz := HR.out.size
      have x0 : wr.cell? ⟨g, 0, none⟩ = some (.slice A n c) := (HR.out.cell (p := ⟨g, 0, none⟩) hgw).trans c2a
      by_cases hlt : k < n
      · have hk2 : (k : Int) < n := by omega
        have hk0 : (0 : Int) ≤ (k : Int) := by omega
        have HBA0 := Lib.hid (HB2.out.trans (HR.out.mono (by have := HG.out; omega)))
        obtain ⟨ad, rfl, hbl, y0, y1, y2, hbd⟩ := (H.out.terms.below HBA0.out).at_ hlt
        have hkn : k < s.terms.length := by rw [HN.out]; exact hlt
        have hfew := HF.out.at_ hkn
        have hst := YAcc_step (s := s) hkn
        have hl1 := HLEN.out (k + 1)
        obtain ⟨t, htt⟩ : ∃ t, ti s.terms k = t := ⟨_, rfl⟩
        rw [htt] at y0 y1 y2 hbd hfew hst
        obtain ⟨f, x, l⟩ := t
        dsimp only at y0 y1 y2 hbd hfew
        rw [hst, List.length_append] at hl1
        have hx9 : x.length ≤ 70368744177664 := by omega
        have hl9 : l.length ≤ 70368744177664 := by omega
        have hf9 := hbd.2
        have htb : tBytes ⟨f, x, l⟩ = vint f ++ vtext x ++ vtext l := rfl
        rw [htb] at hst hl1
        have HST := Lib.hid hst
        have hws2 := HBA0.out.size
        have hblr : (ad.add (k * 3)).block < wr.heap.size := by omega
        simp only [List.length_append] at hl1
        have hcat1 : ¬ 9223372036854775807 < (ba (YAcc s k)).size + (ba (vint f)).size := by rw [ba_size, ba_size]; omega
        have hcat2 : ¬ 9223372036854775807 < (ba (YAcc s k)).size + (ba (vint f)).size + (ba (vtext x)).size := by rw [ba_size, ba_size, ba_size]; omega
        have hcat3 : ¬ 9223372036854775807 < (ba (YAcc s k)).size + (ba (vint f)).size + (ba (vtext x)).size + (ba (vtext l)).size := by rw [ba_size, ba_size, ba_size, ba_size]; omega
        have HCAT1 := Lib.hid hcat1
        have HK1 := Lib.hid (fun (W : World) (hW : Below wr.heap.size wr W) => show W.cell? ⟨g, 0, none⟩ = some (.slice (some ad) n c) ∧ W.cell? (ad.add (k * 3)) = some (.int .i64 f) ∧ W.cell? ⟨(ad.add (k * 3)).block, (ad.add (k * 3)).off + 1, none⟩ = some (.string (ba x)) ∧ W.cell? ⟨(ad.add (k * 3)).block, (ad.add (k * 3)).off + 2, none⟩ = some (.string (ba l)) from
          ⟨(hW.cell (p := ⟨g, 0, none⟩) (by show g < _; omega)).trans x0, (hW.cell hblr).trans y0, (hW.cell (p := ⟨(ad.add (k * 3)).block, _, none⟩) hblr).trans y1, (hW.cell (p := ⟨(ad.add (k * 3)).block, _, none⟩) hblr).trans y2⟩)
        clear hkn hfew hst htt hbd htb hl1
        go_wp2
        go_region_held3 (fun w' => w'.cell? ⟨g, 0, none⟩ = some (.slice (some ad) n c) ∧ w'.cell? (ad.add (k * 3)) = some (.int .i64 f) ∧ w'.cell? ⟨(ad.add (k * 3)).block, (ad.add (k * 3)).off + 1, none⟩ = some (.string (ba x)) ∧ w'.cell? ⟨(ad.add (k * 3)).block, (ad.add (k * 3)).off + 2, none⟩ = some (.string (ba l)))
          (first
            | exact HK1.out _ (Below.drew (Below.refl _ _))
            | exact HK1.out _ HV2.out
            | exact HK1.out _ HV3.out
            | exact HK1.out _ HV4.out)
          (first
            | (go_simp; go_at_call 52; refine (rnum_any f _ hf9).mono ?_; rintro e v2 ⟨rfl, hbel⟩; (
                have HV2 := Lib.hid (show Below wr.heap.size wr v2 from (Below.drew (Below.refl _ _)).trans hbel)
                clear hbel))
            | (go_simp; go_at_call_of 53 (Value.string (ba x)); refine (rtext_any x _ hx9).mono ?_; rintro e v3 ⟨rfl, hbel⟩; (
                have HV3 := Lib.hid (show Below wr.heap.size wr v3 from HV2.out.trans (hbel.mono HV2.out.size))
                clear hbel))
            | (go_simp; go_at_call_of 53 (Value.string (ba l)); refine (rtext_any l _ hl9).mono ?_; rintro e v4 ⟨rfl, hbel⟩; (
                have HV4 := Lib.hid (show Below wr.heap.size wr v4 from HV3.out.trans (hbel.mono HV3.out.size))
                clear hbel)))
        all_goals
          rw [ba_append, ba_append, ba_append]
          have HE := Lib.hid (show YAcc s k ++ vint f ++ vtext x ++ vtext l = YAcc s (k + 1) by rw [HST.out]; simp only [List.append_assoc])
          rw [HE.out]
          clear hcat1 hcat2 hcat3
          go_wp2
          go_roundw
          case rel => exact ⟨k + 1, by omega, by go_num, rfl, Lib.hid (HR.out.trans (HV4.out.mono hsz))⟩
          case measure => simp [intOf] <;> omega
      · obtain rfl : k = n := by omega
        have HE := Lib.hid (show YAcc s k = bytesP s by rw [HFP.out, HN.out])
        go_wp2
        go_ret
        exact ⟨by rw [HE.out]; rfl, HB2.out.trans (HR.out.mono (by have := HG.out; omega))⟩

set_option maxRecDepth 100000 in
set_option maxHeartbeats 8000000 in
/-- Two segments that read alike. -/
theorem rseg_same (A D A2 D2 : Option Addr) (n c m d n2 c2 m2 d2 : Nat) (s : Seg) (w : World) (h : SegIn w w.heap.size A n c D m d s) (h2 : SegIn w w.heap.size A2 n2 c2 D2 m2 d2 s) (hm8 : m ≤ 1000000000000) :
    Calls Tryz.prog 13 #[.agg #[.slice A n c, .slice D m d], .agg #[.slice A2 n2 c2, .slice D2 m2 d2]] w fun e w' => e = .returned (.bool true) ∧ Below w.heap.size w w' := by
  obtain rfl : n2 = n := by rw [← h.terms.len, ← h2.terms.len]
  obtain rfl : m2 = m := by rw [← h.docs.len, ← h2.docs.len]
  have hb : Below w.heap.size w ((w.alloc (.cells #[.slice A n2 c, .slice D m2 d] 28)).alloc (.cells #[.slice A2 n2 c2, .slice D2 m2 d2] 28)) := ((Below.refl _ _).alloc (Nat.le_refl _) _).alloc (by simp) _
  have k0 : ((w.alloc (.cells #[.slice A n2 c, .slice D m2 d] 28)).alloc (.cells #[.slice A2 n2 c2, .slice D2 m2 d2] 28)).cell? ⟨w.heap.size, 0, none⟩ = some (.slice A n2 c) := by go_simp
  have k1 : ((w.alloc (.cells #[.slice A n2 c, .slice D m2 d] 28)).alloc (.cells #[.slice A2 n2 c2, .slice D2 m2 d2] 28)).cell? ⟨w.heap.size, 1, none⟩ = some (.slice D m2 d) := by go_simp
  have k2 : ((w.alloc (.cells #[.slice A n2 c, .slice D m2 d] 28)).alloc (.cells #[.slice A2 n2 c2, .slice D2 m2 d2] 28)).cell? ⟨w.heap.size + 1, 0, none⟩ = some (.slice A2 n2 c2) := by go_simp
  have k3 : ((w.alloc (.cells #[.slice A n2 c, .slice D m2 d] 28)).alloc (.cells #[.slice A2 n2 c2, .slice D2 m2 d2] 28)).cell? ⟨w.heap.size + 1, 1, none⟩ = some (.slice D2 m2 d2) := by go_simp
  have HB := Lib.hid hb
  have HD := Lib.hid (same_ints D D2 m2 m2 d d2 s.docs s.docs _ ((h.docs.below hb).more hb.size) ((h2.docs.below hb).more hb.size) hm8)
  have hdt : decide (s.docs = s.docs) = true := by simp
  rw [hdt] at HD
  clear hdt
  have HA := Lib.hid (h.terms.below hb)
  have HA2 := Lib.hid (h2.terms.below hb)
  have hcm := h.nc
  have hcl := h.cm
  unfold maxLen at hcl
  clear h h2 hb hm8
  have hne0 : ((n2 : Int) != (n2 : Int)) = false := by simp
  go_enter Tryz.func13, Tryz.ntmps13
  go_wp2_with fail
  refine HD.out.mono ?_
  rintro e w1 ⟨rfl, q, rfl⟩
  obtain ⟨W, hW⟩ : ∃ W, ((w.alloc (.cells #[.slice A n2 c, .slice D m2 d] 28)).alloc (.cells #[.slice A2 n2 c2, .slice D2 m2 d2] 28)) = W := ⟨_, rfl⟩
  rw [hW] at HB HA HA2 k0 k1 k2 k3 ⊢
  obtain ⟨g, hg⟩ : ∃ g, w.heap.size = g := ⟨_, rfl⟩
  rw [hg] at HA HA2 k0 k1 k2 k3 ⊢
  have HG := Lib.hid hg
  clear hW hg HD k1 k3
  go_wp2
  go_loopw [5] (fun i wr => ∃ k : Nat, k ≤ n2 ∧ i = .int .i64 (k : Int) ∧ Hid (∃ q, wr = W.drewN q)) (fun i _ => n2 - (intOf i).toNat)
  case atStart => exact ⟨0, Nat.zero_le _, rfl, q, rfl⟩
  case round =>
    obtain ⟨k, hk, rfl, HW⟩ := hrel
    have u0 : wr.cell? ⟨g, 0, none⟩ = some (.slice A n2 c) := by obtain ⟨q, rfl⟩ := HW.out; exact k0
    have u1 : wr.cell? ⟨g + 1, 0, none⟩ = some (.slice A2 n2 c2) := by obtain ⟨q, rfl⟩ := HW.out; exact k2
    by_cases hlt : k < n2
    · have hk2 : (k : Int) < n2 := by omega
      have hk0 : (0 : Int) ≤ (k : Int) := by omega
      obtain ⟨ad, rfl, _, ca0, ca1, ca2, -⟩ := HA.out.at_ hlt
      obtain ⟨bd, rfl, _, cb0, cb1, cb2, -⟩ := HA2.out.at_ hlt
      obtain ⟨t, htx⟩ : ∃ t, ti s.terms k = t := ⟨_, rfl⟩
      rw [htx] at ca0 ca1 ca2 cb0 cb1 cb2
      obtain ⟨f, x, l⟩ := t
      dsimp only at ca0 ca1 ca2 cb0 cb1 cb2
      have va0 : wr.cell? (ad.add (k * 3)) = some (.int .i64 f) := by obtain ⟨q, rfl⟩ := HW.out; exact ca0
      have va1 : wr.cell? ⟨(ad.add (k * 3)).block, (ad.add (k * 3)).off + 1, none⟩ = some (.string (ba x)) := by obtain ⟨q, rfl⟩ := HW.out; exact ca1
      have va2 : wr.cell? ⟨(ad.add (k * 3)).block, (ad.add (k * 3)).off + 2, none⟩ = some (.string (ba l)) := by obtain ⟨q, rfl⟩ := HW.out; exact ca2
      have vb0 : wr.cell? (bd.add (k * 3)) = some (.int .i64 f) := by obtain ⟨q, rfl⟩ := HW.out; exact cb0
      have vb1 : wr.cell? ⟨(bd.add (k * 3)).block, (bd.add (k * 3)).off + 1, none⟩ = some (.string (ba x)) := by obtain ⟨q, rfl⟩ := HW.out; exact cb1
      have vb2 : wr.cell? ⟨(bd.add (k * 3)).block, (bd.add (k * 3)).off + 2, none⟩ = some (.string (ba l)) := by obtain ⟨q, rfl⟩ := HW.out; exact cb2
      clear htx ca0 ca1 ca2 cb0 cb1 cb2
      go_wp2
      go_quiet (fail)
      go_wp2
      go_roundw
      case rel => exact ⟨k + 1, by omega, by go_num, by obtain ⟨q, rfl⟩ := HW.out; exact ⟨_, World.drewN_drewN W q nq⟩⟩
      case measure => simp [intOf] <;> omega
    · go_wp2
      go_ret
      exact ⟨rfl, by obtain ⟨q, rfl⟩ := HW.out; exact Below.drewN HB.out q⟩
end Go.Proofs.YtfinpehbpcckaaaGreatDoor
