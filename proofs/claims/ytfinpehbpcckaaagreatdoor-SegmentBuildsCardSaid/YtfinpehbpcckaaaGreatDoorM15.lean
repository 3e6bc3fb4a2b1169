/- Layer 34: the contracts of found, Look, Prefix (printed by gen_found.py). Layer 34: the contract of Bytes. Layer 34: slices.Equal over terms, Same. Layer 34: a row of terms of the call's own, and append of one term. -/
import Derived.Test.YtfinpehbpcckaaaGreatDoorM14
import Derived.Test.YtfinpehbpcckaaaGreatDoorM10
import Derived.Test.YtfinpehbpcckaaaGreatDoorM04
import Derived.Test.YtfinpehbpcckaaaGreatDoorM09
section
namespace Go.Proofs.YtfinpehbpcckaaaGreatDoor
open Go.RowKit
set_option linter.unusedVariables false

theorem look1_any (x y : List UInt8) (b : Nat) (w : World) (h : w.cell? ⟨b, 0, none⟩ = some (.string (ba y))) : Calls Tryz.prog 73 #[.string (ba x), .pointer (some ⟨b, 0, none⟩)] w fun e w' => e = .returned (.bool (decide (x = y))) ∧ w' = w := by
  by_cases hxy : x = y
  · subst hxy
    rw [decide_eq_true rfl]
    go_enter Tryz.func73, Tryz.ntmps73
    go_wp2
    go_ret
    exact ⟨by simp [go_sem], rfl⟩
  · rw [decide_eq_false hxy]
    have hts : ¬ (ba x).toList = (ba y).toList := by rw [ba_toList, ba_toList]; exact hxy
    have hne : ((ba x).toList == (ba y).toList) = false := by simpa using hts
    obtain ⟨xb, hxb⟩ : ∃ xb, ba x = xb := ⟨_, rfl⟩
    obtain ⟨yb, hyb⟩ : ∃ yb, ba y = yb := ⟨_, rfl⟩
    rw [hxb] at hne ⊢
    rw [hyb] at hne h
    clear hxy hts hxb hyb
    go_enter Tryz.func73, Tryz.ntmps73
    go_wp2
    go_ret
    exact ⟨rfl, rfl⟩
theorem pref1_any (x y : List UInt8) (b : Nat) (w : World) (h : w.cell? ⟨b, 0, none⟩ = some (.string (ba y))) : Calls Tryz.prog 75 #[.string (ba x), .pointer (some ⟨b, 0, none⟩)] w fun e w' => e = .returned (.bool (decide (y <+: x))) ∧ w' = w := by
  have HP := Lib.hid (hasPrefix_any x y w)
  go_enter Tryz.func75, Tryz.ntmps75
  go_wp2_with fail
  refine HP.out.mono ?_
  rintro e w' ⟨rfl, rfl⟩
  go_wp2
  go_ret
  exact ⟨rfl, rfl⟩
def FRel (w1 : World) (s : Seg) (field : Int) (p : List UInt8 → Bool) (k : Nat) (v : Value) (wr : World) : Prop := ∃ ps, OwnPosts wr w1.heap.size v ps ∧ ps.map (·.1) = foundL (s.terms.take k) field p ∧ Below w1.heap.size w1 wr
theorem OwnPosts.lens {w : World} {B : Nat} {v : Value} {ps : List (Post × Value)} {l : List Post} {k : Nat} (h : ps.map (·.1) = l) (ho : FoundOk l k) : ps.length ≤ 50000 * k := by
  have := ho.len; rw [← h, List.length_map] at this; exact this

set_option maxRecDepth 100000 in
set_option maxHeartbeats 8000000 in
theorem found_look (A D : Option Addr) (n c m d : Nat) (s : Seg) (field : Int) (y : List UInt8) (b : Nat) (w : World) (h : SegIn w w.heap.size A n c D m d s) (hf : SegFew s) (ht : Tables w) (hb : b < w.heap.size) (hy : w.cell? ⟨b, 0, none⟩ = some (.string (ba y))) :
    Calls Tryz.prog 72 #[.agg #[.slice A n c, .slice D m d], .int .i64 field, .func (.func 73) #[] #[.pointer (some ⟨b, 0, none⟩)]] w (PostsBack w (foundP s field fun x => decide (x = y))) := by
  obtain ⟨p, hp⟩ : ∃ p : List UInt8 → Bool, (fun x => decide (x = y)) = p := ⟨_, rfl⟩
  have HC := Lib.hid (fun (x : List UInt8) W (hb2 : Below w.heap.size w W) => look1_any x y b W ((hb2.cell (p := ⟨b, 0, none⟩) hb).trans hy))
  have HPP := Lib.hid (fun x => congrFun hp x)
  rw [hp]
  clear hp hy
  have H := Lib.hid h
  have HF := Lib.hid hf
  have hn9 : n ≤ 5000 := by rw [← h.terms.len]; exact hf.terms
  have HN := Lib.hid h.terms.len
  have HT := Lib.hid ht
  have HOKS := Lib.hid (found_ok hf field p)
  clear h hf ht
  go_enter Tryz.func72, Tryz.ntmps72
  have hb1 : Below w.heap.size w (w.alloc (.cells #[.slice A n c, .slice D m d] 28)) := (Below.refl _ _).alloc (Nat.le_refl _) _
  have c1a : (w.alloc (.cells #[.slice A n c, .slice D m d] 28)).cell? ⟨w.heap.size, 0, none⟩ = some (.slice A n c) := by go_simp
  have hz1 : (w.alloc (.cells #[.slice A n c, .slice D m d] 28)).heap.size = w.heap.size + 1 := by simp
  have HR := Lib.hid (seg_right A D n c m d s (w.alloc (.cells #[.slice A n c, .slice D m d] 28)) ((H.out.below hb1).more hb1.size) HF.out (HT.out.below hb1))
  go_wp2_with fail
  refine HR.out.mono ?_
  rintro e w1 ⟨rfl, hbr⟩
  have hb2 : Below w.heap.size w w1 := hb1.trans (hbr.mono (by omega))
  have c2a : w1.cell? ⟨w.heap.size, 0, none⟩ = some (.slice A n c) := (hbr.cell (p := ⟨w.heap.size, 0, none⟩) (by show w.heap.size < _; omega)).trans c1a
  have hz2 : w.heap.size + 1 ≤ w1.heap.size := by have := hbr.size; omega
  have HB2 := Lib.hid hb2
  obtain ⟨rt, hrt⟩ : ∃ rt, rightP s = rt := ⟨_, rfl⟩
  have HRT := Lib.hid hrt
  rw [hrt]
  obtain ⟨g, hg⟩ : ∃ g, w.heap.size = g := ⟨_, rfl⟩
  rw [hg] at c2a hz2
  have HG := Lib.hid hg
  clear hb1 c1a hz1 hbr hb2 hrt HR
  cases rt
  · have HFP := Lib.hid (show foundP s field p = [] by unfold foundP; rw [HRT.out]; rfl)
    go_wp2
    go_ret
    exact ⟨.slice none 0 0, [], rfl, OwnPosts.nil_ _ _, by rw [HFP.out]; rfl, HB2.out⟩
  have HFP := Lib.hid (show foundP s field p = foundL s.terms field p by unfold foundP; rw [HRT.out]; rfl)
  go_wp2
  go_loopw [6, 17] (fun v i wr => ∃ k : Nat, k ≤ n ∧ i = .int .i64 (k : Int) ∧ Hid (FRel w1 s field p k v wr)) (fun _ i _ => n - (intOf i).toNat)
  case atStart => exact ⟨0, Nat.zero_le _, rfl, [], OwnPosts.nil_ _ _, rfl, Below.refl _ _⟩
  case round =>
    obtain ⟨k, hk, rfl, HR⟩ := hrel
    obtain ⟨ps, hown, hps, hbw⟩ := HR.out
    have hsz := hbw.size
    by_cases hlt : k < n
    · have hk2 : (k : Int) < n := by omega
      have HBA0 := Lib.hid (HB2.out.trans (hbw.mono (by omega)))
      obtain ⟨ad, rfl, hbl, c0, c1, c2, hbd⟩ := (H.out.terms.below HBA0.out).at_ hlt
      have hkn : k < s.terms.length := by rw [HN.out]; exact hlt
      have hfew := HF.out.at_ hkn
      have htk := found_take (s := s) (field := field) (p := p) hkn
      have hok := HOKS.out k (Nat.le_of_lt hkn)
      obtain ⟨t, htt⟩ : ∃ t, ti s.terms k = t := ⟨_, rfl⟩
      rw [htt] at c0 c1 c2 hbd hfew htk
      obtain ⟨f, x, l⟩ := t
      dsimp only at c0 c1 c2 hbd hfew htk
      have hl9 := hfew.2
      have hpl := OwnPosts.lens (w := wr) (B := 0) (v := .pointer none) hps hok
      have HTK := Lib.hid htk
      have HOK := Lib.hid hok
      have HPS := Lib.hid hps
      have HBW := Lib.hid hbw
      have HOWN := Lib.hid hown
      clear hkn hfew htk htt hok hps hbw HR
      have HWB : Hid (Below wr.heap.size wr (wr.alloc (.cells #[.int .i64 f, .string (ba x), .string (ba l)] 47))) := Lib.hid ((Below.refl _ _).alloc (Nat.le_refl _) _)
      have hws : (wr.alloc (.cells #[.int .i64 f, .string (ba x), .string (ba l)] 47)).heap.size = wr.heap.size + 1 := by simp
      have b0 : (wr.alloc (.cells #[.int .i64 f, .string (ba x), .string (ba l)] 47)).cell? ⟨wr.heap.size, 0, none⟩ = some (.int .i64 f) := by go_simp
      have b1 : (wr.alloc (.cells #[.int .i64 f, .string (ba x), .string (ba l)] 47)).cell? ⟨wr.heap.size, 1, none⟩ = some (.string (ba x)) := by go_simp
      have b2 : (wr.alloc (.cells #[.int .i64 f, .string (ba x), .string (ba l)] 47)).cell? ⟨wr.heap.size, 2, none⟩ = some (.string (ba l)) := by go_simp
      have HBA := Lib.hid (HBA0.out.trans (HWB.out.mono HBA0.out.size))
      have hws2 := HBA0.out.size
      have HBWA := Lib.hid (HBW.out.trans (HWB.out.mono hsz))
      have HOWNA := Lib.hid (HOWN.out.below HWB.out)
      obtain ⟨A2, cp2, rfl, hc1, hc2, -⟩ := hown.posts
      clear hown
      by_cases f0 : field = 0
      · have e0 : (field == 0) = true := by simpa using f0
        have HFL := Lib.hid (show (field = 0 ∨ field = f) from .inl f0)
        clear f0
        go_wp2_with fail
        refine (HC.out x _ HBA.out).mono ?_
        rintro e w' ⟨rfl, rfl⟩
        rw [HPP.out x]
        obtain ⟨pb, hpb⟩ : ∃ pb, p x = pb := ⟨_, rfl⟩
        rw [hpb] at HTK ⊢
        clear hpb
        cases pb
        · have HNX := Lib.hid (show foundL (s.terms.take (k + 1)) field p = foundL (s.terms.take k) field p by rw [HTK.out, if_neg]; rintro ⟨_, h⟩; cases h)
          go_wp2
          go_roundw
          case rel => exact ⟨k + 1, by omega, by go_num, ps, HOWNA.out, by rw [HNX.out]; exact HPS.out, HBWA.out⟩
          case measure => simp [intOf] <;> omega
        · have HNX := Lib.hid (show foundL (s.terms.take (k + 1)) field p = orP (foundL (s.terms.take k) field p) ((postDec l).getD []) by rw [HTK.out, if_pos ⟨HFL.out, rfl⟩])
          go_wp2_with fail
          refine (decode_any l _ (by omega)).mono ?_
          rintro e w3 hdec
          obtain ⟨A9, n9, c9, q, ok, rfl, hP, hb3, hn3, hnc3, hc3, -, hq, -⟩ := dec_form (docs := []) (by omega) hdec
          have hdf := dec_fine (l := l) hl9
          rw [hq] at hdf
          have HB3 := Lib.hid (HBWA.out.trans (hb3.mono HBWA.out.size))
          have HOWN3 := Lib.hid (HOWNA.out.below hb3)
          obtain ⟨A5, cp5, hv5, h51, h52, hP5⟩ := HOWN3.out.posts
          injection hv5 with hv51 hv52 hv53
          subst hv51; subst hv53
          rw [HPS.out] at hP5
          have HOKK := HOK.out
          have hor := or_any A2 A9 ps.length n9 cp2 c9 (foundL (s.terms.take k) field p) q w3 hP5 hP hc1 hc2 hnc3 hc3 HOKK.fine hdf.1 (by have := HOKK.len; have := hdf.2.1; have := Nat.mul_le_mul_left 50000 (show k ≤ 4999 by omega); omega) (fun z hz => by have := HOKK.places z hz; have := Nat.mul_le_mul_left 50000 (show k ≤ 4999 by omega); omega) (fun z hz => by have := hdf.2.2 z hz; omega)
          have HOR := Lib.hid hor
          have HQ := Lib.hid hq
          clear hor hq hdf hP5 hP hdec hb3 HOKK
          cases ok <;> (
            go_wp2_with fail
            refine HOR.out.mono ?_
            rintro e w4 ⟨v4, ps4, rfl, hown4, hps4, hb4⟩
            have HF4 := Lib.hid (And.intro hown4 (And.intro hps4 hb4))
            clear hown4 hps4 hb4
            go_wp2
            go_roundw
            case rel => exact ⟨k + 1, by omega, by go_num, ps4, HF4.out.1.more HB3.out.size, by rw [HNX.out, HF4.out.2.1, HQ.out], HB3.out.trans (HF4.out.2.2.mono HB3.out.size)⟩
            case measure => simp [intOf] <;> omega)
      · have e0 : (field == 0) = false := by simpa using f0
        by_cases f1 : field = f
        · have e1 : (field == f) = true := by simpa using f1
          have HFL := Lib.hid (show (field = 0 ∨ field = f) from .inr f1)
          clear f0 f1
          go_wp2_with fail
          refine (HC.out x _ HBA.out).mono ?_
          rintro e w' ⟨rfl, rfl⟩
          rw [HPP.out x]
          obtain ⟨pb, hpb⟩ : ∃ pb, p x = pb := ⟨_, rfl⟩
          rw [hpb] at HTK ⊢
          clear hpb
          cases pb
          · have HNX := Lib.hid (show foundL (s.terms.take (k + 1)) field p = foundL (s.terms.take k) field p by rw [HTK.out, if_neg]; rintro ⟨_, h⟩; cases h)
            go_wp2
            go_roundw
            case rel => exact ⟨k + 1, by omega, by go_num, ps, HOWNA.out, by rw [HNX.out]; exact HPS.out, HBWA.out⟩
            case measure => simp [intOf] <;> omega
          · have HNX := Lib.hid (show foundL (s.terms.take (k + 1)) field p = orP (foundL (s.terms.take k) field p) ((postDec l).getD []) by rw [HTK.out, if_pos ⟨HFL.out, rfl⟩])
            go_wp2_with fail
            refine (decode_any l _ (by omega)).mono ?_
            rintro e w3 hdec
            obtain ⟨A9, n9, c9, q, ok, rfl, hP, hb3, hn3, hnc3, hc3, -, hq, -⟩ := dec_form (docs := []) (by omega) hdec
            have hdf := dec_fine (l := l) hl9
            rw [hq] at hdf
            have HB3 := Lib.hid (HBWA.out.trans (hb3.mono HBWA.out.size))
            have HOWN3 := Lib.hid (HOWNA.out.below hb3)
            obtain ⟨A5, cp5, hv5, h51, h52, hP5⟩ := HOWN3.out.posts
            injection hv5 with hv51 hv52 hv53
            subst hv51; subst hv53
            rw [HPS.out] at hP5
            have HOKK := HOK.out
            have hor := or_any A2 A9 ps.length n9 cp2 c9 (foundL (s.terms.take k) field p) q w3 hP5 hP hc1 hc2 hnc3 hc3 HOKK.fine hdf.1 (by have := HOKK.len; have := hdf.2.1; have := Nat.mul_le_mul_left 50000 (show k ≤ 4999 by omega); omega) (fun z hz => by have := HOKK.places z hz; have := Nat.mul_le_mul_left 50000 (show k ≤ 4999 by omega); omega) (fun z hz => by have := hdf.2.2 z hz; omega)
            have HOR := Lib.hid hor
            have HQ := Lib.hid hq
            clear hor hq hdf hP5 hP hdec hb3 HOKK
            cases ok <;> (
              go_wp2_with fail
              refine HOR.out.mono ?_
              rintro e w4 ⟨v4, ps4, rfl, hown4, hps4, hb4⟩
              have HF4 := Lib.hid (And.intro hown4 (And.intro hps4 hb4))
              clear hown4 hps4 hb4
              go_wp2
              go_roundw
              case rel => exact ⟨k + 1, by omega, by go_num, ps4, HF4.out.1.more HB3.out.size, by rw [HNX.out, HF4.out.2.1, HQ.out], HB3.out.trans (HF4.out.2.2.mono HB3.out.size)⟩
              case measure => simp [intOf] <;> omega)
        · have e1 : (field == f) = false := by simpa using f1
          have HNX := Lib.hid (show foundL (s.terms.take (k + 1)) field p = foundL (s.terms.take k) field p by rw [HTK.out, if_neg]; rintro ⟨h | h, _⟩; exact f0 h; exact f1 h)
          clear f0 f1
          go_wp2
          go_roundw
          case rel => exact ⟨k + 1, by omega, by go_num, ps, HOWNA.out, by rw [HNX.out]; exact HPS.out, HBWA.out⟩
          case measure => simp [intOf] <;> omega
    · obtain rfl : k = n := by omega
      have HFIN := Lib.hid (show ps.map (·.1) = foundP s field p by rw [HFP.out, hps, List.take_of_length_le (by rw [HN.out]; exact Nat.le_refl _)])
      obtain ⟨A2, cp2, rfl, hc1, hc2, -⟩ := hown.posts
      have HOWN := Lib.hid hown
      have HBF := Lib.hid (HB2.out.trans (hbw.mono (by have := HG.out; omega)))
      clear hown hps hbw HR
      go_wp2
      go_ret
      exact ⟨_, ps, rfl, HOWN.out.more (by have := HG.out; omega), HFIN.out, HBF.out⟩

set_option maxRecDepth 100000 in
theorem seg_look (A D : Option Addr) (n c m d : Nat) (s : Seg) (field : Int) (y : List UInt8) (w : World) (h : SegIn w w.heap.size A n c D m d s) (hf : SegFew s) (ht : Tables w) :
    Calls Tryz.prog 23 #[.agg #[.slice A n c, .slice D m d], .int .i64 field, .string (ba y)] w (PostsBack w (lookP s field y)) := by
  have hb : Below w.heap.size w ((w.alloc (.cells #[.slice A n c, .slice D m d] 28)).alloc (.cells #[.string (ba y)] 9)) := ((Below.refl _ _).alloc (Nat.le_refl _) _).alloc (by simp) _
  have hc : ((w.alloc (.cells #[.slice A n c, .slice D m d] 28)).alloc (.cells #[.string (ba y)] 9)).cell? ⟨w.heap.size + 1, 0, none⟩ = some (.string (ba y)) := by go_simp
  have HC := Lib.hid (found_look A D n c m d s field y (w.heap.size + 1) _ ((h.below hb).more hb.size) hf (ht.below hb) (by simp) hc)
  have HB := Lib.hid hb
  clear h hf ht hb hc
  go_enter Tryz.func23, Tryz.ntmps23
  go_wp2_with fail
  refine HC.out.mono ?_
  rintro e w1 ⟨v, ps, rfl, hown, hps, hb⟩
  have HF := Lib.hid (And.intro hown (And.intro hps hb))
  obtain ⟨A2, cp2, rfl, -, -, -⟩ := hown.posts
  clear hown hps hb
  go_wp2
  go_ret
  exact ⟨_, ps, rfl, HF.out.1.more HB.out.size, HF.out.2.1, HB.out.trans (HF.out.2.2.mono HB.out.size)⟩

set_option maxRecDepth 100000 in
set_option maxHeartbeats 8000000 in
theorem found_pref (A D : Option Addr) (n c m d : Nat) (s : Seg) (field : Int) (y : List UInt8) (b : Nat) (w : World) (h : SegIn w w.heap.size A n c D m d s) (hf : SegFew s) (ht : Tables w) (hb : b < w.heap.size) (hy : w.cell? ⟨b, 0, none⟩ = some (.string (ba y))) :
    Calls Tryz.prog 72 #[.agg #[.slice A n c, .slice D m d], .int .i64 field, .func (.func 75) #[] #[.pointer (some ⟨b, 0, none⟩)]] w (PostsBack w (foundP s field fun x => decide (y <+: x))) := by
  obtain ⟨p, hp⟩ : ∃ p : List UInt8 → Bool, (fun x => decide (y <+: x)) = p := ⟨_, rfl⟩
  have HC := Lib.hid (fun (x : List UInt8) W (hb2 : Below w.heap.size w W) => pref1_any x y b W ((hb2.cell (p := ⟨b, 0, none⟩) hb).trans hy))
  have HPP := Lib.hid (fun x => congrFun hp x)
  rw [hp]
  clear hp hy
  have H := Lib.hid h
  have HF := Lib.hid hf
  have hn9 : n ≤ 5000 := by rw [← h.terms.len]; exact hf.terms
  have HN := Lib.hid h.terms.len
  have HT := Lib.hid ht
  have HOKS := Lib.hid (found_ok hf field p)
  clear h hf ht
  go_enter Tryz.func72, Tryz.ntmps72
  have hb1 : Below w.heap.size w (w.alloc (.cells #[.slice A n c, .slice D m d] 28)) := (Below.refl _ _).alloc (Nat.le_refl _) _
  have c1a : (w.alloc (.cells #[.slice A n c, .slice D m d] 28)).cell? ⟨w.heap.size, 0, none⟩ = some (.slice A n c) := by go_simp
  have hz1 : (w.alloc (.cells #[.slice A n c, .slice D m d] 28)).heap.size = w.heap.size + 1 := by simp
  have HR := Lib.hid (seg_right A D n c m d s (w.alloc (.cells #[.slice A n c, .slice D m d] 28)) ((H.out.below hb1).more hb1.size) HF.out (HT.out.below hb1))
  go_wp2_with fail
  refine HR.out.mono ?_
  rintro e w1 ⟨rfl, hbr⟩
  have hb2 : Below w.heap.size w w1 := hb1.trans (hbr.mono (by omega))
  have c2a : w1.cell? ⟨w.heap.size, 0, none⟩ = some (.slice A n c) := (hbr.cell (p := ⟨w.heap.size, 0, none⟩) (by show w.heap.size < _; omega)).trans c1a
  have hz2 : w.heap.size + 1 ≤ w1.heap.size := by have := hbr.size; omega
  have HB2 := Lib.hid hb2
  obtain ⟨rt, hrt⟩ : ∃ rt, rightP s = rt := ⟨_, rfl⟩
  have HRT := Lib.hid hrt
  rw [hrt]
  obtain ⟨g, hg⟩ : ∃ g, w.heap.size = g := ⟨_, rfl⟩
  rw [hg] at c2a hz2
  have HG := Lib.hid hg
  clear hb1 c1a hz1 hbr hb2 hrt HR
  cases rt
  · have HFP := Lib.hid (show foundP s field p = [] by unfold foundP; rw [HRT.out]; rfl)
    go_wp2
    go_ret
    exact ⟨.slice none 0 0, [], rfl, OwnPosts.nil_ _ _, by rw [HFP.out]; rfl, HB2.out⟩
  have HFP := Lib.hid (show foundP s field p = foundL s.terms field p by unfold foundP; rw [HRT.out]; rfl)
  go_wp2
  go_loopw [6, 17] (fun v i wr => ∃ k : Nat, k ≤ n ∧ i = .int .i64 (k : Int) ∧ Hid (FRel w1 s field p k v wr)) (fun _ i _ => n - (intOf i).toNat)
  case atStart => exact ⟨0, Nat.zero_le _, rfl, [], OwnPosts.nil_ _ _, rfl, Below.refl _ _⟩
  case round =>
    obtain ⟨k, hk, rfl, HR⟩ := hrel
    obtain ⟨ps, hown, hps, hbw⟩ := HR.out
    have hsz := hbw.size
    by_cases hlt : k < n
    · have hk2 : (k : Int) < n := by omega
      have HBA0 := Lib.hid (HB2.out.trans (hbw.mono (by omega)))
      obtain ⟨ad, rfl, hbl, c0, c1, c2, hbd⟩ := (H.out.terms.below HBA0.out).at_ hlt
      have hkn : k < s.terms.length := by rw [HN.out]; exact hlt
      have hfew := HF.out.at_ hkn
      have htk := found_take (s := s) (field := field) (p := p) hkn
      have hok := HOKS.out k (Nat.le_of_lt hkn)
      obtain ⟨t, htt⟩ : ∃ t, ti s.terms k = t := ⟨_, rfl⟩
      rw [htt] at c0 c1 c2 hbd hfew htk
      obtain ⟨f, x, l⟩ := t
      dsimp only at c0 c1 c2 hbd hfew htk
      have hl9 := hfew.2
      have hpl := OwnPosts.lens (w := wr) (B := 0) (v := .pointer none) hps hok
      have HTK := Lib.hid htk
      have HOK := Lib.hid hok
      have HPS := Lib.hid hps
      have HBW := Lib.hid hbw
      have HOWN := Lib.hid hown
      clear hkn hfew htk htt hok hps hbw HR
      have HWB : Hid (Below wr.heap.size wr (wr.alloc (.cells #[.int .i64 f, .string (ba x), .string (ba l)] 47))) := Lib.hid ((Below.refl _ _).alloc (Nat.le_refl _) _)
      have hws : (wr.alloc (.cells #[.int .i64 f, .string (ba x), .string (ba l)] 47)).heap.size = wr.heap.size + 1 := by simp
      have b0 : (wr.alloc (.cells #[.int .i64 f, .string (ba x), .string (ba l)] 47)).cell? ⟨wr.heap.size, 0, none⟩ = some (.int .i64 f) := by go_simp
      have b1 : (wr.alloc (.cells #[.int .i64 f, .string (ba x), .string (ba l)] 47)).cell? ⟨wr.heap.size, 1, none⟩ = some (.string (ba x)) := by go_simp
      have b2 : (wr.alloc (.cells #[.int .i64 f, .string (ba x), .string (ba l)] 47)).cell? ⟨wr.heap.size, 2, none⟩ = some (.string (ba l)) := by go_simp
      have HBA := Lib.hid (HBA0.out.trans (HWB.out.mono HBA0.out.size))
      have hws2 := HBA0.out.size
      have HBWA := Lib.hid (HBW.out.trans (HWB.out.mono hsz))
      have HOWNA := Lib.hid (HOWN.out.below HWB.out)
      obtain ⟨A2, cp2, rfl, hc1, hc2, -⟩ := hown.posts
      clear hown
      by_cases f0 : field = 0
      · have e0 : (field == 0) = true := by simpa using f0
        have HFL := Lib.hid (show (field = 0 ∨ field = f) from .inl f0)
        clear f0
        go_wp2_with fail
        refine (HC.out x _ HBA.out).mono ?_
        rintro e w' ⟨rfl, rfl⟩
        rw [HPP.out x]
        obtain ⟨pb, hpb⟩ : ∃ pb, p x = pb := ⟨_, rfl⟩
        rw [hpb] at HTK ⊢
        clear hpb
        cases pb
        · have HNX := Lib.hid (show foundL (s.terms.take (k + 1)) field p = foundL (s.terms.take k) field p by rw [HTK.out, if_neg]; rintro ⟨_, h⟩; cases h)
          go_wp2
          go_roundw
          case rel => exact ⟨k + 1, by omega, by go_num, ps, HOWNA.out, by rw [HNX.out]; exact HPS.out, HBWA.out⟩
          case measure => simp [intOf] <;> omega
        · have HNX := Lib.hid (show foundL (s.terms.take (k + 1)) field p = orP (foundL (s.terms.take k) field p) ((postDec l).getD []) by rw [HTK.out, if_pos ⟨HFL.out, rfl⟩])
          go_wp2_with fail
          refine (decode_any l _ (by omega)).mono ?_
          rintro e w3 hdec
          obtain ⟨A9, n9, c9, q, ok, rfl, hP, hb3, hn3, hnc3, hc3, -, hq, -⟩ := dec_form (docs := []) (by omega) hdec
          have hdf := dec_fine (l := l) hl9
          rw [hq] at hdf
          have HB3 := Lib.hid (HBWA.out.trans (hb3.mono HBWA.out.size))
          have HOWN3 := Lib.hid (HOWNA.out.below hb3)
          obtain ⟨A5, cp5, hv5, h51, h52, hP5⟩ := HOWN3.out.posts
          injection hv5 with hv51 hv52 hv53
          subst hv51; subst hv53
          rw [HPS.out] at hP5
          have HOKK := HOK.out
          have hor := or_any A2 A9 ps.length n9 cp2 c9 (foundL (s.terms.take k) field p) q w3 hP5 hP hc1 hc2 hnc3 hc3 HOKK.fine hdf.1 (by have := HOKK.len; have := hdf.2.1; have := Nat.mul_le_mul_left 50000 (show k ≤ 4999 by omega); omega) (fun z hz => by have := HOKK.places z hz; have := Nat.mul_le_mul_left 50000 (show k ≤ 4999 by omega); omega) (fun z hz => by have := hdf.2.2 z hz; omega)
          have HOR := Lib.hid hor
          have HQ := Lib.hid hq
          clear hor hq hdf hP5 hP hdec hb3 HOKK
          cases ok <;> (
            go_wp2_with fail
            refine HOR.out.mono ?_
            rintro e w4 ⟨v4, ps4, rfl, hown4, hps4, hb4⟩
            have HF4 := Lib.hid (And.intro hown4 (And.intro hps4 hb4))
            clear hown4 hps4 hb4
            go_wp2
            go_roundw
            case rel => exact ⟨k + 1, by omega, by go_num, ps4, HF4.out.1.more HB3.out.size, by rw [HNX.out, HF4.out.2.1, HQ.out], HB3.out.trans (HF4.out.2.2.mono HB3.out.size)⟩
            case measure => simp [intOf] <;> omega)
      · have e0 : (field == 0) = false := by simpa using f0
        by_cases f1 : field = f
        · have e1 : (field == f) = true := by simpa using f1
          have HFL := Lib.hid (show (field = 0 ∨ field = f) from .inr f1)
          clear f0 f1
          go_wp2_with fail
          refine (HC.out x _ HBA.out).mono ?_
          rintro e w' ⟨rfl, rfl⟩
          rw [HPP.out x]
          obtain ⟨pb, hpb⟩ : ∃ pb, p x = pb := ⟨_, rfl⟩
          rw [hpb] at HTK ⊢
          clear hpb
          cases pb
          · have HNX := Lib.hid (show foundL (s.terms.take (k + 1)) field p = foundL (s.terms.take k) field p by rw [HTK.out, if_neg]; rintro ⟨_, h⟩; cases h)
            go_wp2
            go_roundw
            case rel => exact ⟨k + 1, by omega, by go_num, ps, HOWNA.out, by rw [HNX.out]; exact HPS.out, HBWA.out⟩
            case measure => simp [intOf] <;> omega
          · have HNX := Lib.hid (show foundL (s.terms.take (k + 1)) field p = orP (foundL (s.terms.take k) field p) ((postDec l).getD []) by rw [HTK.out, if_pos ⟨HFL.out, rfl⟩])
            go_wp2_with fail
            refine (decode_any l _ (by omega)).mono ?_
            rintro e w3 hdec
            obtain ⟨A9, n9, c9, q, ok, rfl, hP, hb3, hn3, hnc3, hc3, -, hq, -⟩ := dec_form (docs := []) (by omega) hdec
            have hdf := dec_fine (l := l) hl9
            rw [hq] at hdf
            have HB3 := Lib.hid (HBWA.out.trans (hb3.mono HBWA.out.size))
            have HOWN3 := Lib.hid (HOWNA.out.below hb3)
            obtain ⟨A5, cp5, hv5, h51, h52, hP5⟩ := HOWN3.out.posts
            injection hv5 with hv51 hv52 hv53
            subst hv51; subst hv53
            rw [HPS.out] at hP5
            have HOKK := HOK.out
            have hor := or_any A2 A9 ps.length n9 cp2 c9 (foundL (s.terms.take k) field p) q w3 hP5 hP hc1 hc2 hnc3 hc3 HOKK.fine hdf.1 (by have := HOKK.len; have := hdf.2.1; have := Nat.mul_le_mul_left 50000 (show k ≤ 4999 by omega); omega) (fun z hz => by have := HOKK.places z hz; have := Nat.mul_le_mul_left 50000 (show k ≤ 4999 by omega); omega) (fun z hz => by have := hdf.2.2 z hz; omega)
            have HOR := Lib.hid hor
            have HQ := Lib.hid hq
            clear hor hq hdf hP5 hP hdec hb3 HOKK
            cases ok <;> (
              go_wp2_with fail
              refine HOR.out.mono ?_
              rintro e w4 ⟨v4, ps4, rfl, hown4, hps4, hb4⟩
              have HF4 := Lib.hid (And.intro hown4 (And.intro hps4 hb4))
              clear hown4 hps4 hb4
              go_wp2
              go_roundw
              case rel => exact ⟨k + 1, by omega, by go_num, ps4, HF4.out.1.more HB3.out.size, by rw [HNX.out, HF4.out.2.1, HQ.out], HB3.out.trans (HF4.out.2.2.mono HB3.out.size)⟩
              case measure => simp [intOf] <;> omega)
        · have e1 : (field == f) = false := by simpa using f1
          have HNX := Lib.hid (show foundL (s.terms.take (k + 1)) field p = foundL (s.terms.take k) field p by rw [HTK.out, if_neg]; rintro ⟨h | h, _⟩; exact f0 h; exact f1 h)
          clear f0 f1
          go_wp2
          go_roundw
          case rel => exact ⟨k + 1, by omega, by go_num, ps, HOWNA.out, by rw [HNX.out]; exact HPS.out, HBWA.out⟩
          case measure => simp [intOf] <;> omega
    · obtain rfl : k = n := by omega
      have HFIN := Lib.hid (show ps.map (·.1) = foundP s field p by rw [HFP.out, hps, List.take_of_length_le (by rw [HN.out]; exact Nat.le_refl _)])
      obtain ⟨A2, cp2, rfl, hc1, hc2, -⟩ := hown.posts
      have HOWN := Lib.hid hown
      have HBF := Lib.hid (HB2.out.trans (hbw.mono (by have := HG.out; omega)))
      clear hown hps hbw HR
      go_wp2
      go_ret
      exact ⟨_, ps, rfl, HOWN.out.more (by have := HG.out; omega), HFIN.out, HBF.out⟩

set_option maxRecDepth 100000 in
theorem seg_pref (A D : Option Addr) (n c m d : Nat) (s : Seg) (field : Int) (y : List UInt8) (w : World) (h : SegIn w w.heap.size A n c D m d s) (hf : SegFew s) (ht : Tables w) :
    Calls Tryz.prog 25 #[.agg #[.slice A n c, .slice D m d], .int .i64 field, .string (ba y)] w (PostsBack w (prefP s field y)) := by
  have hb : Below w.heap.size w ((w.alloc (.cells #[.slice A n c, .slice D m d] 28)).alloc (.cells #[.string (ba y)] 9)) := ((Below.refl _ _).alloc (Nat.le_refl _) _).alloc (by simp) _
  have hc : ((w.alloc (.cells #[.slice A n c, .slice D m d] 28)).alloc (.cells #[.string (ba y)] 9)).cell? ⟨w.heap.size + 1, 0, none⟩ = some (.string (ba y)) := by go_simp
  have HC := Lib.hid (found_pref A D n c m d s field y (w.heap.size + 1) _ ((h.below hb).more hb.size) hf (ht.below hb) (by simp) hc)
  have HB := Lib.hid hb
  clear h hf ht hb hc
  go_enter Tryz.func25, Tryz.ntmps25
  go_wp2_with fail
  refine HC.out.mono ?_
  rintro e w1 ⟨v, ps, rfl, hown, hps, hb⟩
  have HF := Lib.hid (And.intro hown (And.intro hps hb))
  obtain ⟨A2, cp2, rfl, -, -, -⟩ := hown.posts
  clear hown hps hb
  go_wp2
  go_ret
  exact ⟨_, ps, rfl, HF.out.1.more HB.out.size, HF.out.2.1, HB.out.trans (HF.out.2.2.mono HB.out.size)⟩
end Go.Proofs.YtfinpehbpcckaaaGreatDoor
end
section
namespace Go.Proofs.YtfinpehbpcckaaaGreatDoor
open Go.RowKit
set_option linter.unusedVariables false

theorem vtext_len (l : List UInt8) (h : l.length < 9223372036854775808) : (vtext l).length ≤ l.length + 9 := by
  unfold vtext
  rw [List.length_append]
  have := vnum_len 9 l.length (by have : (128 : Nat) ^ 9 = 9223372036854775808 := rfl; omega) (by omega)
  omega
def YAcc (s : Seg) (k : Nat) : List UInt8 := vints s.docs ++ vnum s.terms.length ++ (s.terms.take k).flatMap tBytes
theorem tBytes_len (t : Trm) (h : t.field ≤ 9223372036854775807) (h1 : t.word.length ≤ 1000000) (h2 : t.list.length ≤ 50000) : (tBytes t).length ≤ 1050027 := by
  unfold tBytes
  rw [List.length_append, List.length_append]
  have := vint_len t.field h
  have := vtext_len t.word (by omega)
  have := vtext_len t.list (by omega)
  omega
theorem flat_len {ts : List Trm} {N : Nat} (h : ∀ t, t ∈ ts → (tBytes t).length ≤ N) : (ts.flatMap tBytes).length ≤ N * ts.length := by
  induction ts with
  | nil => simp
  | cons a r ih =>
    rw [List.flatMap_cons, List.length_append, List.length_cons]
    have h1 := h a (by simp)
    have h2 := ih fun t ht => h t (by simp [ht])
    rw [Nat.mul_add]; omega
theorem YAcc_len {s : Seg} (hf : SegFew s) (hd : ∀ x, x ∈ s.docs → x ≤ 9223372036854775807) (ht : ∀ t, t ∈ s.terms → t.field ≤ 9223372036854775807) (k : Nat) : (YAcc s k).length ≤ 6000000000 := by
  unfold YAcc vints
  rw [List.length_append, List.length_append, List.length_append]
  have h1 := vints_len s.docs hd
  have h2 := hf.docs
  have h3 := hf.terms
  have h4 := vnum_len 9 s.docs.length (by have : (128 : Nat) ^ 9 = 9223372036854775808 := rfl; omega) (by omega)
  have h5 := vnum_len 9 s.terms.length (by have : (128 : Nat) ^ 9 = 9223372036854775808 := rfl; omega) (by omega)
  have h6 := flat_len (ts := s.terms.take k) (N := 1050027) fun t h => tBytes_len t (ht t (List.mem_of_mem_take h)) (hf.each t (List.mem_of_mem_take h)).1 (hf.each t (List.mem_of_mem_take h)).2
  rw [List.length_take] at h6
  have h7 : 1050027 * min k s.terms.length ≤ 1050027 * 5000 := Nat.mul_le_mul_left _ (by omega)
  omega
theorem YAcc_step {s : Seg} {k : Nat} (hk : k < s.terms.length) : YAcc s (k + 1) = YAcc s k ++ tBytes (ti s.terms k) := by
  unfold YAcc
  rw [List.take_succ_eq_append_getElem hk, List.flatMap_append, ti_get hk]
  simp
def YRel (w1 : World) (b : Nat) (s : Seg) (k : Nat) (wr : World) : Prop := Bld wr b b (YAcc s k) ∧ Below b w1 wr
set_option maxRecDepth 100000 in
set_option maxHeartbeats 16000000 in
theorem seg_bytes (A D : Option Addr) (n c m d : Nat) (s : Seg) (w : World) (h : SegIn w w.heap.size A n c D m d s) (hf : SegFew s) (ht : Tables w) :
    Calls Tryz.prog 14 #[.agg #[.slice A n c, .slice D m d]] w (StrPost w (bytesP s)) := by
  have H := Lib.hid h
  have HF := Lib.hid hf
  have hn9 : n ≤ 5000 := by rw [← h.terms.len]; exact hf.terms
  have hm9 : m ≤ 1000000 := by rw [← h.docs.len]; exact hf.docs
  have HN := Lib.hid h.terms.len
  have HT := Lib.hid ht
  have hfield : ∀ t, t ∈ s.terms → t.field ≤ 9223372036854775807 := fun t h1 => by
    obtain ⟨j, hj, rfl⟩ := List.getElem_of_mem h1
    obtain ⟨ad, e, _, _, _, _, hb⟩ := h.terms.2 j hj
    exact hb.2
  have HLEN := Lib.hid (fun k => YAcc_len hf (fun x hx => (h.docs.2.1 x hx).2) hfield k)
  have HNUMS := Lib.hid (fun W (hb : Below w.heap.size w W) => nums_any D m d s.docs W ((h.docs.below hb).more hb.size) (by omega))
  clear h hf ht hfield
  go_enter Tryz.func14, Tryz.ntmps14
  have hb1 : Below w.heap.size w (w.alloc (.cells #[.slice A n c, .slice D m d] 28)) := (Below.refl _ _).alloc (Nat.le_refl _) _
  have c1a : (w.alloc (.cells #[.slice A n c, .slice D m d] 28)).cell? ⟨w.heap.size, 0, none⟩ = some (.slice A n c) := by go_simp
  have c1b : (w.alloc (.cells #[.slice A n c, .slice D m d] 28)).cell? ⟨w.heap.size, 1, none⟩ = some (.slice D m d) := by go_simp
  have hz1 : (w.alloc (.cells #[.slice A n c, .slice D m d] 28)).heap.size = w.heap.size + 1 := by simp
  have HR := Lib.hid (seg_right A D n c m d s (w.alloc (.cells #[.slice A n c, .slice D m d] 28)) ((H.out.below hb1).more hb1.size) HF.out (HT.out.below hb1))
  go_wp2_with fail
  refine HR.out.mono ?_
  rintro e w1 ⟨rfl, hbr⟩
  have hb2 : Below w.heap.size w w1 := hb1.trans (hbr.mono (by omega))
  have c2a : w1.cell? ⟨w.heap.size, 0, none⟩ = some (.slice A n c) := (hbr.cell (p := ⟨w.heap.size, 0, none⟩) (by show w.heap.size < _; omega)).trans c1a
  have c2b : w1.cell? ⟨w.heap.size, 1, none⟩ = some (.slice D m d) := (hbr.cell (p := ⟨w.heap.size, 1, none⟩) (by show w.heap.size < _; omega)).trans c1b
  have hz2 : w.heap.size + 1 ≤ w1.heap.size := by have := hbr.size; omega
  have HB2 := Lib.hid hb2
  obtain ⟨rt, hrt⟩ : ∃ rt, rightP s = rt := ⟨_, rfl⟩
  have HRT := Lib.hid hrt
  rw [hrt]
  clear hb1 c1a c1b hz1 hbr hb2 hrt HR
  cases rt
  · have HFP := Lib.hid (show bytesP s = [] by unfold bytesP; rw [HRT.out]; rfl)
    clear c2a c2b
    go_wp2
    go_ret
    exact ⟨by rw [HFP.out]; rfl, HB2.out⟩
  have HFP := Lib.hid (show bytesP s = YAcc s s.terms.length by unfold bytesP YAcc; rw [HRT.out, List.take_length]; rfl)
  go_wp2
  have hbW : Below w1.heap.size w1 (w1.alloc (.cells #[.pointer none, .slice none 0 0] 78)) := (Below.refl _ _).alloc (Nat.le_refl _) _
  have hbld := bld_new w1
  have hzW : (w1.alloc (.cells #[.pointer none, .slice none 0 0] 78)).heap.size = w1.heap.size + 1 := by simp
  obtain ⟨W, hW⟩ : ∃ W, w1.alloc (.cells #[.pointer none, .slice none 0 0] 78) = W := ⟨_, rfl⟩
  rw [hW] at hbW hbld hzW ⊢
  obtain ⟨b, hb⟩ : ∃ b, w1.heap.size = b := ⟨_, rfl⟩
  obtain ⟨g, hg⟩ : ∃ g, w.heap.size = g := ⟨_, rfl⟩
  have c3a : W.cell? ⟨g, 0, none⟩ = some (.slice A n c) := (hbW.cell (p := ⟨g, 0, none⟩) (by show g < _; omega)).trans (by rw [← hg]; exact c2a)
  have c3b : W.cell? ⟨g, 1, none⟩ = some (.slice D m d) := (hbW.cell (p := ⟨g, 1, none⟩) (by show g < _; omega)).trans (by rw [← hg]; exact c2b)
  have HBW := Lib.hid hbW
  have HBLD := Lib.hid hbld
  rw [hb] at hzW HBLD HBW ⊢
  have HBB := Lib.hid hb
  have HGG := Lib.hid hg
  rw [hg]
  have hgb : g < b := by omega
  have HBA := Lib.hid (HB2.out.trans (HBW.out.mono (by omega)))
  clear hbW hbld hW hb hg c2a c2b hz2
  have hl0 := HLEN.out 0
  have hacc0 : YAcc s 0 = vints s.docs ++ vnum n := by unfold YAcc; rw [HN.out]; simp
  rw [hacc0] at hl0
  have HACC0 := Lib.hid hacc0
  rw [List.length_append] at hl0
  clear hacc0
  have hcat1 : ¬ 9223372036854775807 < (ba (vints s.docs)).size + (ba (vint (n : Int))).size := by rw [ba_size, ba_size, vint_nat]; omega
  have hnn : (n : Int) ≤ 9223372036854775807 := by omega
  go_region_law
    (first
      | (go_simp; go_at_call 47; refine (HNUMS.out _ (by first | exact HBA.out | exact Below.drew HBA.out)).mono ?_; rintro e w2 ⟨rfl, hbel⟩; (
          have HB3 := Lib.hid (show Below (b + 1) W w2 from (Below.drew (Below.refl _ _)).trans (hbel.mono (by show b + 1 ≤ W.heap.size; omega)))
          have c4a : w2.cell? ⟨g, 0, none⟩ = some (.slice A n c) := (HB3.out.cell (p := ⟨g, 0, none⟩) (by show g < _; omega)).trans c3a
          clear hbel))
      | (go_simp; go_at_call 48; refine (num_any (n : Int) _ hnn).mono ?_; rintro e w3 ⟨rfl, hbel⟩; (
          have HB4 := Lib.hid (show Below (b + 1) W w3 from HB3.out.trans (hbel.mono (by have := HB3.out.size; omega)))
          have HBLD3 := Lib.hid (HBLD.out.below (w' := w3) (by rw [hzW]; exact HB4.out))
          have hs3 : b + 1 ≤ w3.heap.size := by have := HB4.out.size; omega
          clear hbel))
      | (go_simp; go_at_call 46; rw [ba_append, vint_nat]; refine (write_string b b [] (vints s.docs ++ vnum n) _ HBLD3.out (by simp only [List.length_nil, List.length_append]; omega) (by omega)).mono ?_; rintro e w4 ⟨rfl, hwr⟩; (
          have HY0 := Lib.hid (show YRel w1 b s 0 w4 from ⟨by rw [HACC0.out]; exact hwr.bld, HBW.out.trans ((HB4.out.mono (by omega)).trans hwr.bel)⟩)
          clear hwr))
      | fail)
  all_goals
    have e4a : w4.cell? ⟨g, 0, none⟩ = some (.slice A n c) := (HY0.out.2.cell (p := ⟨g, 0, none⟩) hgb).trans ((HBW.out.cell (p := ⟨g, 0, none⟩) hgb).symm.trans c3a)
    clear hcat1 hl0 hnn HB3 HB4 HBLD3 HBLD c4a c3a c3b hs3
    go_wp2
    go_loopw [21] (fun i wr => ∃ k : Nat, k ≤ n ∧ i = .int .i64 (k : Int) ∧ Hid (YRel w1 b s k wr)) (fun i _ => n - (intOf i).toNat)
    case atStart => exact ⟨0, Nat.zero_le _, rfl, HY0.out⟩
    case round =>
      obtain ⟨k, hk, rfl, HR⟩ := hrel
      have hsz := HR.out.1.lt
      by_cases hlt : k < n
      · have hk2 : (k : Int) < n := by omega
        have HBA0 := Lib.hid (HB2.out.trans (HR.out.2.mono (by have := HGG.out; omega)))
        obtain ⟨ad, rfl, hbl, c0, c1, c2, hbd⟩ := (H.out.terms.below HBA0.out).at_ hlt
        have hkn : k < s.terms.length := by rw [HN.out]; exact hlt
        have hfew := HF.out.at_ hkn
        have hst := YAcc_step (s := s) hkn
        have hl1 := HLEN.out (k + 1)
        obtain ⟨t, htt⟩ : ∃ t, ti s.terms k = t := ⟨_, rfl⟩
        rw [htt] at c0 c1 c2 hbd hfew hst
        obtain ⟨f, x, l⟩ := t
        dsimp only at c0 c1 c2 hbd hfew
        rw [hst, List.length_append] at hl1
        have hx9 : x.length ≤ 70368744177664 := by omega
        have hl9 : l.length ≤ 70368744177664 := by omega
        have hf9 := hbd.2
        have htb : tBytes ⟨f, x, l⟩ = vint f ++ vtext x ++ vtext l := rfl
        rw [htb] at hst hl1
        have hlv : (vint f).length ≤ 9 := vint_len f hf9
        have hlx := vtext_len x (by omega)
        have hll := vtext_len l (by omega)
        have HST := Lib.hid hst
        have HBD := Lib.hid HR.out.1
        have HBW0 := Lib.hid HR.out.2
        have hws : (wr.alloc (.cells #[.int .i64 f, .string (ba x), .string (ba l)] 47)).heap.size = wr.heap.size + 1 := by simp
        have b0 : (wr.alloc (.cells #[.int .i64 f, .string (ba x), .string (ba l)] 47)).cell? ⟨wr.heap.size, 0, none⟩ = some (.int .i64 f) := by go_simp
        have b1 : (wr.alloc (.cells #[.int .i64 f, .string (ba x), .string (ba l)] 47)).cell? ⟨wr.heap.size, 1, none⟩ = some (.string (ba x)) := by go_simp
        have b2 : (wr.alloc (.cells #[.int .i64 f, .string (ba x), .string (ba l)] 47)).cell? ⟨wr.heap.size, 2, none⟩ = some (.string (ba l)) := by go_simp
        have HWB : Hid (Below wr.heap.size wr (wr.alloc (.cells #[.int .i64 f, .string (ba x), .string (ba l)] 47))) := Lib.hid ((Below.refl _ _).alloc (Nat.le_refl _) _)
        have hcat1 : ¬ 9223372036854775807 < (ba (vint f)).size + (ba (vtext x)).size := by rw [ba_size, ba_size]; omega
        have hcat2 : ¬ 9223372036854775807 < (ba (vint f)).size + (ba (vtext x)).size + (ba (vtext l)).size := by rw [ba_size, ba_size, ba_size]; omega
        simp only [List.length_append] at hl1
        clear hkn hfew hst htt HR hbd htb
        go_wp2
        go_region_law
          (first
            | (go_simp; go_at_call 48; refine (num_any f _ hf9).mono ?_; rintro e v2 ⟨rfl, hbel⟩; (
                have HV2 := Lib.hid (show Below (wr.heap.size + 1) (wr.alloc (.cells #[.int .i64 f, .string (ba x), .string (ba l)] 47)) v2 from (Below.drew (Below.refl _ _)).trans (hbel.mono (Nat.le_of_eq hws.symm)))
                have p1 : v2.cell? ⟨wr.heap.size, 1, none⟩ = some (.string (ba x)) := (HV2.out.cell (p := ⟨wr.heap.size, 1, none⟩) (Nat.lt_succ_self _)).trans b1
                have p2 : v2.cell? ⟨wr.heap.size, 2, none⟩ = some (.string (ba l)) := (HV2.out.cell (p := ⟨wr.heap.size, 2, none⟩) (Nat.lt_succ_self _)).trans b2
                clear hbel))
            | (go_simp; go_at_call_of 49 (Value.string (ba x)); refine (text_any x _ hx9).mono ?_; rintro e v3 ⟨rfl, hbel⟩; (
                have HV3 := Lib.hid (show Below (wr.heap.size + 1) (wr.alloc (.cells #[.int .i64 f, .string (ba x), .string (ba l)] 47)) v3 from HV2.out.trans (hbel.mono (by have := HV2.out.size; omega)))
                have q2 : v3.cell? ⟨wr.heap.size, 2, none⟩ = some (.string (ba l)) := (HV3.out.cell (p := ⟨wr.heap.size, 2, none⟩) (Nat.lt_succ_self _)).trans b2
                clear hbel))
            | (go_simp; go_at_call_of 49 (Value.string (ba l)); refine (text_any l _ hl9).mono ?_; rintro e v4 ⟨rfl, hbel⟩; (
                have HV4 := Lib.hid (show Below (wr.heap.size + 1) (wr.alloc (.cells #[.int .i64 f, .string (ba x), .string (ba l)] 47)) v4 from HV3.out.trans (hbel.mono (by have := HV3.out.size; omega)))
                have HV5 := Lib.hid (HWB.out.trans (HV4.out.mono (Nat.le_succ _)))
                have HBD4 := Lib.hid (HBD.out.below HV5.out)
                have hs5 := HV5.out.size
                clear hbel))
            | (go_simp; go_at_call 46; rw [ba_append, ba_append]; refine (write_string b b (YAcc s k) (vint f ++ vtext x ++ vtext l) _ HBD4.out (by simp only [List.length_append]; omega) (by omega)).mono ?_; rintro e v6 ⟨rfl, hwr⟩; (
                have HY6 := Lib.hid (show YRel w1 b s (k + 1) v6 from ⟨by rw [HST.out]; exact hwr.bld, HBW0.out.trans ((HV5.out.mono (by omega)).trans hwr.bel)⟩)
                clear hwr))
            | fail)
        all_goals
          clear hcat1 hcat2 hl1 hlv hlx hll b0 b1 b2 p1 p2 q2
          go_wp2
          go_roundw
          case rel => exact ⟨k + 1, by omega, by go_num, HY6.out⟩
          case measure => simp [intOf] <;> omega
      · obtain rfl : k = n := by omega
        have HB0 := Lib.hid (HB2.out.trans (HR.out.2.mono (by have := HGG.out; omega)))
        have hbd := HR.out.1
        have HE := Lib.hid (show YAcc s k = bytesP s by rw [HFP.out, HN.out])
        have hgle : w.heap.size ≤ b := by have := HGG.out; omega
        have hble : b ≤ wr.heap.size := Nat.le_of_lt hsz
        clear HR
        go_wp2_with fail
        refine (bld_string b b (YAcc s k) _ hbd hble).mono ?_
        rintro e w9 ⟨rfl, hwr⟩
        have HB9 := Lib.hid (HB0.out.trans (hwr.bel.mono hgle))
        clear hwr hbd
        go_wp2
        go_ret
        exact ⟨by rw [HE.out]; rfl, HB9.out⟩
end Go.Proofs.YtfinpehbpcckaaaGreatDoor
end
section
namespace Go.Proofs.YtfinpehbpcckaaaGreatDoor
open Go.RowKit
set_option linter.unusedVariables false

theorem equalT_no (A B : Option Addr) (n m c d : Nat) (w : World) (hne : ((n : Int) != (m : Int)) = true) :
    Calls Tryz.prog 67 #[.slice A n c, .slice B m d] w fun e w' => e = .returned (.bool false) ∧ w = w' := by
  go_enter Tryz.func67, Tryz.ntmps67
  go_wp2
  go_ret
  exact ⟨rfl, rfl⟩
set_option maxRecDepth 100000 in
set_option maxHeartbeats 4000000 in
theorem equalT_eq (A B : Option Addr) (n c d : Nat) (xs ys : List Trm) (w : World) (ha : Trms w w.heap.size A n xs) (hb : Trms w w.heap.size B n ys) (hn : n ≤ maxLen) :
    Calls Tryz.prog 67 #[.slice A n c, .slice B n d] w fun e w' => e = .returned (.bool (decide (xs = ys))) ∧ ∃ k, w' = w.drewN k := by
  unfold maxLen at hn
  go_enter Tryz.func67, Tryz.ntmps67
  go_wp2
  go_loopw [5, 13] (fun _ i wr => ∃ k : Nat, k ≤ n ∧ i = .int .i64 k ∧ xs.take k = ys.take k ∧ ∃ d, wr = w.drewN d) (fun _ i _ => n - (intOf i).toNat)
  case atStart => exact ⟨0, Nat.zero_le _, rfl, rfl, 0, rfl⟩
  case round =>
    obtain ⟨k, hk, rfl, ht, dd, rfl⟩ := hrel
    by_cases hlt : k < n
    · obtain ⟨ad, rfl, _, ca0, ca1, ca2, -⟩ := ha.at_ hlt
      obtain ⟨bd, rfl, _, cb0, cb1, cb2, -⟩ := hb.at_ hlt
      have hlx := ha.len
      have hly := hb.len
      have hkx : k < xs.length := by omega
      have hky : k < ys.length := by omega
      have HT := Lib.hid ht; clear ht
      have hx := ti_get hkx
      have hy := ti_get hky
      obtain ⟨t, htx⟩ : ∃ t, ti xs k = t := ⟨_, rfl⟩
      obtain ⟨u, htu⟩ : ∃ u, ti ys k = u := ⟨_, rfl⟩
      rw [htx] at ca0 ca1 ca2 hx
      rw [htu] at cb0 cb1 cb2 hy
      have HX := Lib.hid hx
      have HY := Lib.hid hy
      have HKX := Lib.hid hkx
      have HKY := Lib.hid hky
      clear hlx hly hx hy htx htu
      by_cases he : t = u
      · subst he
        have HS := Lib.hid (show xs.take (k + 1) = ys.take (k + 1) by rw [List.take_succ_eq_append_getElem HKX.out, List.take_succ_eq_append_getElem HKY.out, HT.out, ← HX.out, ← HY.out])
        obtain ⟨f, x, l⟩ := t
        dsimp only at ca0 ca1 ca2 cb0 cb1 cb2
        clear HX HY HKX HKY hkx hky
        go_wp2
        go_quiet (fail)
        go_wp2
        go_roundw
        case rel => exact ⟨k + 1, by omega, by go_num, HS.out, dd + nq, (by first | rfl | exact World.drewN_drewN w dd nq)⟩
        case measure => simp [intOf]; omega
      · have HS := Lib.hid (show xs ≠ ys by
          intro e
          subst e
          exact he (HX.out.trans HY.out.symm))
        obtain ⟨f, x, l⟩ := t
        obtain ⟨f', x', l'⟩ := u
        dsimp only at ca0 ca1 ca2 cb0 cb1 cb2
        clear HX HY HKX HKY hkx hky
        by_cases hf : f = f'
        · subst hf
          by_cases hw : x = x'
          · subst hw
            have hl : l ≠ l' := fun e => he (by rw [e])
            have hts : ((ba l).toList == (ba l').toList) = false := by rw [ba_toList, ba_toList]; simpa using hl
            obtain ⟨lb, hlb⟩ : ∃ lb, ba l = lb := ⟨_, rfl⟩
            obtain ⟨mb, hmb⟩ : ∃ mb, ba l' = mb := ⟨_, rfl⟩
            rw [hlb] at hts ca2
            rw [hmb] at hts cb2
            have hts2 : (lb.toList != mb.toList) = true := by simp [bne, hts]
            clear he hl hlb hmb
            go_wp2
            go_quiet (fail)
            go_wp2
            go_ret
            exact ⟨ret_bool (by simp; exact HS.out), dd + nq, (by first | rfl | exact World.drewN_drewN w dd nq)⟩
          · have hts : ((ba x).toList == (ba x').toList) = false := by rw [ba_toList, ba_toList]; simpa using hw
            obtain ⟨lb, hlb⟩ : ∃ lb, ba x = lb := ⟨_, rfl⟩
            obtain ⟨mb, hmb⟩ : ∃ mb, ba x' = mb := ⟨_, rfl⟩
            rw [hlb] at hts ca1
            rw [hmb] at hts cb1
            have hts2 : (lb.toList != mb.toList) = true := by simp [bne, hts]
            clear he hw hlb hmb
            go_wp2
            go_quiet (fail)
            go_wp2
            go_ret
            exact ⟨ret_bool (by simp; exact HS.out), dd + nq, (by first | rfl | exact World.drewN_drewN w dd nq)⟩
        · have hne : (f == f') = false := by simpa using hf
          have hne2 : (f != f') = true := by simpa using hf
          clear he
          go_wp2
          go_quiet (fail)
          go_wp2
          go_ret
          exact ⟨ret_bool (by simp; exact HS.out), dd + nq, (by first | rfl | exact World.drewN_drewN w dd nq)⟩
    · have hlx := ha.len
      have hly := hb.len
      have hxy : xs = ys := by
        rw [List.take_of_length_le (by omega), List.take_of_length_le (by omega)] at ht
        exact ht
      have HE := Lib.hid hxy
      clear ht hlx hly hxy
      go_wp2
      go_ret
      exact ⟨ret_bool (by simp [HE.out]), _, rfl⟩
theorem equalT_any (A B : Option Addr) (n m c d : Nat) (xs ys : List Trm) (w : World) (ha : Trms w w.heap.size A n xs) (hb : Trms w w.heap.size B m ys) (hn : n ≤ maxLen) :
    Calls Tryz.prog 67 #[.slice A n c, .slice B m d] w fun e w' => e = .returned (.bool (decide (xs = ys))) ∧ ∃ k, w' = w.drewN k := by
  by_cases h : n = m
  · subst h
    exact equalT_eq A B n c d xs ys w ha hb hn
  · refine (equalT_no A B n m c d w (by simp; omega)).mono ?_
    rintro e w' ⟨rfl, rfl⟩
    refine ⟨ret_bool ?_, 0, rfl⟩
    have h1 := ha.len
    have h2 := hb.len
    symm
    simp
    rintro rfl
    omega
theorem seg_eq (s t : Seg) : decide (s = t) = (decide (s.docs = t.docs) && decide (s.terms = t.terms)) := by
  obtain ⟨a, b⟩ := s
  obtain ⟨c, d⟩ := t
  by_cases h1 : b = d
  · by_cases h2 : a = c
    · simp [h1, h2]
    · simp [h1, h2]
  · simp [h1]
set_option maxRecDepth 100000 in
theorem seg_same (A D A2 D2 : Option Addr) (n c m d n2 c2 m2 d2 : Nat) (s t : Seg) (w : World) (h : SegIn w w.heap.size A n c D m d s) (h2 : SegIn w w.heap.size A2 n2 c2 D2 m2 d2 t) :
    Calls Tryz.prog 19 #[.agg #[.slice A n c, .slice D m d], .agg #[.slice A2 n2 c2, .slice D2 m2 d2]] w fun e w' => e = .returned (.bool (decide (s = t))) ∧ Below w.heap.size w w' := by
  have hb : Below w.heap.size w ((w.alloc (.cells #[.slice A n c, .slice D m d] 28)).alloc (.cells #[.slice A2 n2 c2, .slice D2 m2 d2] 28)) := ((Below.refl _ _).alloc (Nat.le_refl _) _).alloc (by simp) _
  have k0 : ((w.alloc (.cells #[.slice A n c, .slice D m d] 28)).alloc (.cells #[.slice A2 n2 c2, .slice D2 m2 d2] 28)).cell? ⟨w.heap.size, 0, none⟩ = some (.slice A n c) := by go_simp
  have k1 : ((w.alloc (.cells #[.slice A n c, .slice D m d] 28)).alloc (.cells #[.slice A2 n2 c2, .slice D2 m2 d2] 28)).cell? ⟨w.heap.size, 1, none⟩ = some (.slice D m d) := by go_simp
  have k2 : ((w.alloc (.cells #[.slice A n c, .slice D m d] 28)).alloc (.cells #[.slice A2 n2 c2, .slice D2 m2 d2] 28)).cell? ⟨w.heap.size + 1, 0, none⟩ = some (.slice A2 n2 c2) := by go_simp
  have k3 : ((w.alloc (.cells #[.slice A n c, .slice D m d] 28)).alloc (.cells #[.slice A2 n2 c2, .slice D2 m2 d2] 28)).cell? ⟨w.heap.size + 1, 1, none⟩ = some (.slice D2 m2 d2) := by go_simp
  have HE := Lib.hid (seg_eq s t)
  have HB := Lib.hid hb
  have HD := Lib.hid (equal_any D D2 m m2 d d2 s.docs t.docs _ ((h.docs.below hb).more hb.size) ((h2.docs.below hb).more hb.size) (by have := h.md; have := h.dm; omega))
  have HT := Lib.hid (fun W (hb : Below w.heap.size w W) => equalT_any A A2 n n2 c c2 s.terms t.terms W ((h.terms.below hb).more hb.size) ((h2.terms.below hb).more hb.size) (by have := h.nc; have := h.cm; omega))
  clear h h2 hb
  go_enter Tryz.func19, Tryz.ntmps19
  go_wp2_with fail
  refine HD.out.mono ?_
  rintro e w1 ⟨rfl, q, rfl⟩
  obtain ⟨b, hbb⟩ : ∃ b, decide (s.docs = t.docs) = b := ⟨_, rfl⟩
  rw [hbb] at HE ⊢
  clear hbb
  cases b
  · go_wp2
    go_ret
    exact ⟨by rw [HE.out]; rfl, Below.drewN HB.out q⟩
  · go_wp2_with fail
    refine (HT.out _ (Below.drewN HB.out q)).mono ?_
    rintro e w2 ⟨rfl, q2, rfl⟩
    obtain ⟨b, hbb⟩ : ∃ b, decide (s.terms = t.terms) = b := ⟨_, rfl⟩
    rw [hbb] at HE ⊢
    go_wp2
    go_ret
    exact ⟨by rw [HE.out]; rfl, Below.drewN HB.out _⟩
end Go.Proofs.YtfinpehbpcckaaaGreatDoor
end
section
namespace Go.Proofs.YtfinpehbpcckaaaGreatDoor
open Go.RowKit
set_option linter.unusedVariables false

theorem trm_info : (Tryz.prog.info? 47).map (fun i => (i.zero, i.size, i.bytes)) = some (some (.agg #[.int .i64 0, .string ByteArray.empty, .string ByteArray.empty]), 3, 40) := by kernel_rfl
def trmCells (t : Trm) : List Value := [.int .i64 t.field, .string (ba t.word), .string (ba t.list)]
def FieldOk (t : Trm) : Prop := -9223372036854775808 ≤ t.field ∧ t.field ≤ 9223372036854775807
/-- v owns the terms ts, in a row of its own from B on. -/
structure OwnTrms (w : World) (B : Nat) (v : Value) (ts : List Trm) : Prop where
  row : w.ownsRow B 47 3 v ts.length (ts.flatMap trmCells)
  each : ∀ t, t ∈ ts → FieldOk t
theorem OwnTrms.nil_ (w : World) (B : Nat) : OwnTrms w B (.slice none 0 0) [] := ⟨World.ownsRow_nil _ _ _ _, fun t h => by cases h⟩
theorem OwnTrms.below {w w' : World} {B : Nat} {v : Value} {ts : List Trm} (h : OwnTrms w B v ts) (hb : Below w.heap.size w w') : OwnTrms w' B v ts :=
  ⟨ownsRow_block h.row fun b e => hb.block b (h.row.lt b e).2, h.each⟩
theorem OwnTrms.block {w w' : World} {B : Nat} {v : Value} {ts : List Trm} (h : OwnTrms w B v ts) (hb : ∀ b, v.ownBlock = some b → w'.heap[b]? = w.heap[b]?) : OwnTrms w' B v ts := ⟨ownsRow_block h.row hb, h.each⟩
theorem OwnTrms.more {w : World} {B B' : Nat} {v : Value} {ts : List Trm} (h : OwnTrms w B v ts) (hB : B' ≤ B) : OwnTrms w B' v ts := by
  obtain ⟨⟨h0, h1⟩, h2⟩ := h
  refine ⟨⟨h0, ?_⟩, h2⟩
  rcases h1 with h1 | ⟨g, cap, cur, e, hb, r⟩
  · exact .inl h1
  · exact .inr ⟨g, cap, cur, e, by omega, r⟩
theorem trm_len (ts : List Trm) : (ts.flatMap trmCells).length = ts.length * 3 := by induction ts with | nil => rfl | cons a r ih => simp [trmCells] at ih ⊢; omega
theorem trm_get : ∀ (ts : List Trm) j (hj : j < ts.length) i (hi : i < 3), (ts.flatMap trmCells)[j * 3 + i]? = (trmCells ts[j])[i]? := fun ts => by
  induction ts with
  | nil => intro j hj; simp at hj
  | cons a r ih =>
    intro j hj i hi
    cases j with
    | zero =>
      simp only [List.flatMap_cons, List.getElem_cons_zero, Nat.zero_mul, Nat.zero_add]
      rw [List.getElem?_append_left (by simp [trmCells]; omega)]
    | succ j =>
      have := ih j (by simpa using hj) i hi
      simp only [List.flatMap_cons, List.getElem_cons_succ]
      rw [List.getElem?_append_right (by simp [trmCells]; omega), show (j + 1) * 3 + i - (trmCells a).length = j * 3 + i by simp [trmCells]; omega]
      exact this
/-- Terms that a slice owns, read. -/
theorem OwnTrms.trms {w : World} {B : Nat} {v : Value} {ts : List Trm} (h : OwnTrms w B v ts) : ∃ A c, v = .slice A ts.length c ∧ ts.length ≤ c ∧ c ≤ maxLen ∧ Trms w w.heap.size A ts.length ts := by
  have h0 := h.row
  rcases h0.2 with ⟨rfl, hn⟩ | ⟨g, cap, cur, rfl, hb, hg, q1, q2, q3⟩
  · have : ts = [] := List.eq_nil_of_length_eq_zero hn
    subst this
    exact ⟨none, 0, rfl, Nat.le_refl _, by simp, Trms.nil_⟩
  · refine ⟨_, cap, rfl, q1, q2, rfl, fun k hk => ?_⟩
    have hc : ∀ i u, i < 3 → (trmCells ts[k])[i]? = some u → w.cell? ⟨g, k * 3 + i, none⟩ = some u := fun i u hi hu => by
      have := h0.cells (g := g) rfl (k * 3 + i) u (by rw [trm_get ts k hk i hi]; exact hu)
      unfold Addr.add at this
      by_cases e0 : k * 3 + i = 0
      · rw [if_pos e0] at this; rw [e0]; exact this
      · rw [if_neg e0] at this; rw [Nat.zero_add] at this; exact this
    have e1 : (Addr.add ⟨g, 0, none⟩ (k * 3)) = ⟨g, k * 3, none⟩ := by
      unfold Addr.add
      split
      · rename_i e0; rw [e0]
      · rw [Nat.zero_add]
    refine ⟨⟨g, 0, none⟩, rfl, by rw [add_block]; exact heap_lt hg, ?_, ?_, ?_, h.each _ (List.getElem_mem hk)⟩
    · rw [e1]; exact hc 0 _ (by omega) rfl
    · rw [e1]; exact hc 1 _ (by omega) rfl
    · rw [e1]; exact hc 2 _ (by omega) rfl
theorem OwnTrms.shape {w : World} {B : Nat} {v : Value} {ts : List Trm} (h : OwnTrms w B v ts) : ∃ A c, v = .slice A ts.length c ∧ ts.length ≤ c ∧ c ≤ maxLen := by
  obtain ⟨A, c, e, h1, h2, -⟩ := h.trms
  exact ⟨A, c, e, h1, h2⟩
set_option maxRecDepth 100000 in
theorem wp_pushTrm {o : Oper} {a : Act} {K : Act → World → Prop} {W : World} {Q : Exit → Act → World → Prop} {B : Nat} {v : Value} {ts : List Trm} {f : Int} {x l : List UInt8} (hT : OwnTrms W B v ts) (hB : B ≤ W.heap.size) (hf : FieldOk ⟨f, x, l⟩)
    (hlen : ts.length ≤ 1000000000) (s y : Operand) (c : Nat)
    (ho : o.op = .call { callee := .builtin .append, args := #[s, y], argTypes := #[25, 25] }) (hs : a.eval s = v) (hx : a.eval y = .slice (some ⟨W.heap.size, 0, none⟩) 1 c)
    (h : ∀ v' w', OwnTrms w' B v' (ts ++ [⟨f, x, l⟩]) → W.grownBy w' v.ownBlock → K (a.put o.dst v') w') : o.wp Tryz.prog a (W.alloc (.cells #[.int .i64 f, .string (ba x), .string (ba l)] 47)) K Q := by
  obtain ⟨i0, hi, hz0, hz1, hz2⟩ := info_parts trm_info
  obtain ⟨v', w', hrun, h1, h2, _, h4⟩ := run_append_own_at (P := Tryz.prog) (W.alloc (.cells #[.int .i64 f, .string (ba x), .string (ba l)] 47)) B 25 o.type 47 i0 _ 3 40 Tryz.underlying25 hi hz0 hz1 hz2 rfl (by omega) v ts.length (ts.flatMap trmCells) (World.ownsRow.alloc hT.row _) ⟨W.heap.size, 0, none⟩ 1 c (trmCells ⟨f, x, l⟩) rfl (World.news_of_block (MapKept.heap_alloc W _).1) (by
    intro u hu
    simp only [trmCells, List.mem_cons, List.not_mem_nil, or_false] at hu
    rcases hu with rfl | rfl | rfl <;> rfl) (by simp only [maxLen]; omega) (by omega) (by simp; omega)
  have h5 := World.grownBy_alloc W (.cells #[.int .i64 f, .string (ba x), .string (ba l)] 47) v.ownBlock
  have hg : W.grownBy w' v.ownBlock := ⟨h2.os.trans h5.os, h2.tape.trans h5.tape, h2.output.trans h5.output, Nat.le_trans h5.size h2.size, fun k hk hne => (h2.block k (by simp; omega) hne).trans (h5.block k hk hne)⟩
  have hfin : OwnTrms w' B v' (ts ++ [⟨f, x, l⟩]) := by
    refine ⟨by simpa using h1, fun t ht => ?_⟩
    rcases List.mem_append.1 ht with ht | ht
    · exact hT.each t ht
    · rw [List.mem_singleton] at ht; subst ht; exact hf
  unfold Oper.wp execOp
  simp only [ho, resolve, invoke, builtin, Sem.run_bind, Sem.run_pure, Result.andThen_ok, List.map_toArray, List.map_cons, List.map_nil, hs, hx, hrun]
  exact h v' w' hfin hg
theorem step_pushTrm {ops : Array Oper} {o : Oper} {a : Act} {W : World} {K : Act → World → Prop} {Q : Exit → Act → World → Prop} {E : Prop} {B : Nat} {v : Value} {ts : List Trm} {f : Int} {x l : List UInt8} (hT : OwnTrms W B v ts) (hB : B ≤ W.heap.size) (hf : FieldOk ⟨f, x, l⟩)
    (hlen : ts.length ≤ 1000000000) (hgd : o.guard = none) (s y : Operand) (c : Nat)
    (ho : o.op = .call { callee := .builtin .append, args := #[s, y], argTypes := #[25, 25] }) (hs : a.eval s = v) (hx : a.eval y = .slice (some ⟨W.heap.size, 0, none⟩) 1 c)
    (h : ∀ v' w', OwnTrms w' B v' (ts ++ [⟨f, x, l⟩]) → W.grownBy w' v.ownBlock → K (a.put o.dst v') w') :
    if Region.wanted o (yielded ops a.tmps) = true then Oper.wp Tryz.prog o a (W.alloc (.cells #[.int .i64 f, .string (ba x), .string (ba l)] 47)) K Q else E := by
  have hw : Region.wanted o (yielded ops a.tmps) = true := by simp [Region.wanted, hgd]
  rw [if_pos hw]
  exact wp_pushTrm hT hB hf hlen s y c ho hs hx h
theorem wpList_pushTrm {ops : Array Oper} {rest : List Oper} {o : Oper} {a : Act} {W : World} {Q : Exit → Act → World → Prop} {B : Nat} {v : Value} {ts : List Trm} {f : Int} {x l : List UInt8} (hT : OwnTrms W B v ts) (hB : B ≤ W.heap.size) (hf : FieldOk ⟨f, x, l⟩)
    (hlen : ts.length ≤ 1000000000) (hgd : o.guard = none) (s y : Operand) (c : Nat)
    (ho : o.op = .call { callee := .builtin .append, args := #[s, y], argTypes := #[25, 25] }) (hs : a.eval s = v) (hx : a.eval y = .slice (some ⟨W.heap.size, 0, none⟩) 1 c)
    (h : ∀ v' w', OwnTrms w' B v' (ts ++ [⟨f, x, l⟩]) → W.grownBy w' v.ownBlock → wpList Tryz.prog ops Q rest (a.put o.dst v') w') :
    wpList Tryz.prog ops Q (o :: rest) a (W.alloc (.cells #[.int .i64 f, .string (ba x), .string (ba l)] 47)) := by
  obtain ⟨i0, hi, hz0, hz1, hz2⟩ := info_parts trm_info
  refine wpList_append_own_at _ hgd s y 25 ho B 47 i0 _ 3 40 Tryz.underlying25 hi hz0 hz1 hz2 rfl (by omega) v ts.length (ts.flatMap trmCells) hs (World.ownsRow.alloc hT.row _) ⟨W.heap.size, 0, none⟩ 1 c (trmCells ⟨f, x, l⟩) hx rfl (World.news_of_block (MapKept.heap_alloc W _).1) ?_ (by simp only [maxLen]; omega) (by omega) (by simp; omega) ?_
  · intro u hu
    simp only [trmCells, List.mem_cons, List.not_mem_nil, or_false] at hu
    rcases hu with rfl | rfl | rfl <;> rfl
  · intro v' w' h1 h2 _ h4
    have h5 := World.grownBy_alloc W (.cells #[.int .i64 f, .string (ba x), .string (ba l)] 47) v.ownBlock
    have hg : W.grownBy w' v.ownBlock := ⟨h2.os.trans h5.os, h2.tape.trans h5.tape, h2.output.trans h5.output, Nat.le_trans h5.size h2.size, fun k hk hne => (h2.block k (by simp; omega) hne).trans (h5.block k hk hne)⟩
    refine h v' w' ⟨by simpa using h1, fun t ht => ?_⟩ hg
    rcases List.mem_append.1 ht with ht | ht
    · exact hT.each t ht
    · rw [List.mem_singleton] at ht; subst ht; exact hf
end Go.Proofs.YtfinpehbpcckaaaGreatDoor
end
