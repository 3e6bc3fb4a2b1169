/- Layer 13: the contracts of blank and Decode (printed by gen_words. The package variables as the rows lay them: the tables, the entities; a world that meets the condition. -/
import Derived.WalkMore
import Derived.Test.YthidbmeaccpjdaaGreatDoorRows
import Derived.Test.YthidbmeaccpjdaaGreatDoorChecked
import Derived.ProofKit
import Derived.LaidMore
import Derived.OpenShut
import Derived.Lay
import Derived.Lib.LaidIn
import Derived.PinnedBridge
import Derived.Lib.LaidU8
import Derived.Stop.LaidErr
import Derived.Deep.Slices
import Derived.Deep.DeepHandedRow
import Derived.ChangeMaps5
import Derived.Laws.IdiomMaps
import Derived.WideKeyArgs2
import Derived.StringKeys
import Derived.Test.YthidbmeaccpjdaaGreatDoorM24
import Derived.Test.YthidbmeaccpjdaaGreatDoorM03
import Derived.Test.YthidbmeaccpjdaaGreatDoorM12
import Derived.Test.YthidbmeaccpjdaaGreatDoorM27
import Derived.Test.YthidbmeaccpjdaaGreatDoorShelfP
namespace Go.Proofs.YthidbmeaccpjdaaGreatDoor
open Go.RowKit
set_option linter.unusedVariables false
set_option maxHeartbeats 4000000
theorem wblank_any (c : UInt8) (w : World) : Calls Tryz.prog 103 #[.int .u8 (c.toNat : Int)] w fun e w' => e = .returned (.bool (blankB c)) ∧ w' = w := by
 have HF := Lib.hid (blankB_int c)
 obtain ⟨x, hx⟩ : ∃ x : Int, (c.toNat : Int) = x := ⟨_, rfl⟩
 rw [hx] at HF ⊢
 clear hx
 by_cases e9 : x = 9
 ·have g9 : (x == 9) = true := by simpa using e9
  have HG := Lib.hid (show blankB c = true by rw [HF.out]; simp [*])
  clear HF e9
  go_enter Tryz.func103, Tryz.ntmps103
  go_wp2
  go_ret
  exact ⟨by rw [HG.out]; rfl, rfl⟩
 have g9 : (x == 9) = false := by simpa using e9
 by_cases e10 : x = 10
 ·have g10 : (x == 10) = true := by simpa using e10
  have HG := Lib.hid (show blankB c = true by rw [HF.out]; simp [*])
  clear HF e9 e10
  go_enter Tryz.func103, Tryz.ntmps103
  go_wp2
  go_ret
  exact ⟨by rw [HG.out]; rfl, rfl⟩
 have g10 : (x == 10) = false := by simpa using e10
 by_cases e13 : x = 13
 ·have g13 : (x == 13) = true := by simpa using e13
  have HG := Lib.hid (show blankB c = true by rw [HF.out]; simp [*])
  clear HF e9 e10 e13
  go_enter Tryz.func103, Tryz.ntmps103
  go_wp2
  go_ret
  exact ⟨by rw [HG.out]; rfl, rfl⟩
 have g13 : (x == 13) = false := by simpa using e13
 by_cases e32 : x = 32
 ·have g32 : (x == 32) = true := by simpa using e32
  have HG := Lib.hid (show blankB c = true by rw [HF.out]; simp [*])
  clear HF e9 e10 e13 e32
  go_enter Tryz.func103, Tryz.ntmps103
  go_wp2
  go_ret
  exact ⟨by rw [HG.out]; rfl, rfl⟩
 have g32 : (x == 32) = false := by simpa using e32
 have HG := Lib.hid (show blankB c = false by rw [HF.out]; simp [*])
 clear HF
 clear e9 e10 e13 e32
 go_enter Tryz.func103, Tryz.ntmps103
 go_wp2
 go_ret
 exact ⟨by rw [HG.out]; rfl, rfl⟩
theorem gapP_len (r : List UInt8) : (gapP r).length ≤ r.length := by
 unfold gapP
 split
 ·exact (List.dropWhile_suffix _).length_le
 ·exact Nat.le_refl _
theorem wordsF_fuel : ∀ (f g : Nat) (l : List UInt8), l.length ≤ f → l.length ≤ g → wordsF f l = wordsF g l
 | 0, g, l, hf, _ => by
  have : l = [] := List.eq_nil_of_length_eq_zero (by omega)
  subst this
  cases g <;> rfl
 | f + 1, 0, l, _, hg => by
  have : l = [] := List.eq_nil_of_length_eq_zero (by omega)
  subst this
  rfl
 | f + 1, g + 1, [], _, _ => rfl
 | f + 1, g + 1, c :: r, hf, hg => by
  have h1 : r.length ≤ f := by simp at hf; omega
  have h2 : r.length ≤ g := by simp at hg; omega
  unfold wordsF
  cases he : encW (c :: r) with
  | none =>
   show c :: wordsF f r = c :: wordsF g r
   rw [wordsF_fuel f g r h1 h2]
  | some q =>
   obtain ⟨t, n⟩ := q
   have hn := encW_pos he
   have h3 := gapP_len ((c :: r).drop n)
   rw [List.length_drop, List.length_cons] at h3
   show t ++ wordsF f (gapP ((c :: r).drop n)) = t ++ wordsF g (gapP ((c :: r).drop n))
   rw [wordsF_fuel f g _ (by omega) (by omega)]
def wordsW (l : List UInt8) : List UInt8 := wordsF l.length l
theorem wordsW_nil : wordsW [] = [] := rfl
theorem wordsW_none {c : UInt8} {r : List UInt8} (h : encW (c :: r) = none) : wordsW (c :: r) = c :: wordsW r := by
 unfold wordsW
 rw [List.length_cons]
 conv => lhs; unfold wordsF
 rw [h]
theorem wordsW_some {c : UInt8} {r t : List UInt8} {n : Nat} (h : encW (c :: r) = some (t, n)) : wordsW (c :: r) = t ++ wordsW (gapP ((c :: r).drop n)) := by
 have hn := encW_pos h
 have h3 := gapP_len ((c :: r).drop n)
 rw [List.length_drop, List.length_cons] at h3
 unfold wordsW
 rw [List.length_cons]
 conv => lhs; unfold wordsF
 rw [h]
 show t ++ wordsF r.length (gapP ((c :: r).drop n)) = _
 rw [wordsF_fuel _ (gapP ((c :: r).drop n)).length _ (by omega) (Nat.le_refl _)]
theorem encs_len (f : UInt8 → Nat) (l : List UInt8) : (bytesBy f l).length ≤ 4 * l.length := by
 unfold bytesBy
 induction l with
 | nil => simp
 | cons a r ih =>
  have := enc_len (f a : Nat)
  rw [List.flatMap_cons, List.length_append, List.length_cons]
  omega
theorem runes_len : ∀ (f : Nat) (l : List UInt8), (runesF f l).length ≤ l.length
 | 0, _ => Nat.zero_le _
 | f + 1, l => by
  unfold runesF
  split
  ·exact Nat.zero_le _
  ·rename_i h
   have h1 := (uN_pos l h).1
   have h2 := runes_len f (l.drop (uN l).2)
   have h3 : 0 < l.length := List.length_pos_iff.2 h
   rw [List.length_drop] at h2
   rw [List.length_cons]
   omega
theorem repair_len (l : List UInt8) : (repairP l).length ≤ 4 * l.length := by
 rw [repairP_eq]
 have h1 := joinR_len (runesP l)
 have h2 : (runesP l).length ≤ l.length := runes_len _ l
 omega
theorem decodeSet_len (a x : List UInt8) : (decodeSet a x).length ≤ 4 * x.length := by
 unfold decodeSet
 split
 ·exact encs_len _ _
 ·exact repair_len _
 ·exact encs_len _ _
 ·exact encs_len _ _
theorem encW_len {s t : List UInt8} {n : Nat} (h : encW s = some (t, n)) : t.length ≤ 4 * n := by
 unfold encW at h
 split at h
 ·rename_i x y rest
  split at h
  ·cases h1 : cutP 63 rest with
   | none => rw [h1] at h; cases h
   | some q =>
    obtain ⟨a, r1⟩ := q
    rw [h1] at h
    dsimp only at h
    cases h2 : cutP 63 r1 with
    | none => rw [h2] at h; cases h
    | some q =>
     obtain ⟨b, r2⟩ := q
     rw [h2] at h
     dsimp only at h
     cases h3 : cutP 63 r2 with
     | none => rw [h3] at h; cases h
     | some q =>
      obtain ⟨c, d⟩ := q
      rw [h3] at h
      dsimp only at h
      split at h
      ·cases h
      ·cases h4 : wordBy b c with
       | none => rw [h4] at h; cases h
       | some v =>
        have hv : v.length ≤ c.length := by
         unfold wordBy at h4
         split at h4
         ·injection h4 with h4; subst h4; exact unb64P_len c
         ·split at h4
          ·injection h4 with h4; subst h4; exact unqQ_len c
          ·cases h4
        rw [h4] at h
        injection h with h
        injection h with h5 h6
        have := decodeSet_len a v
        subst h5
        subst h6
        omega
  ·cases h
 ·cases h
theorem gap_some {l : List UInt8} {k p : Nat} (hk : k < l.length) (hb : blankB (l[k]) = false) (hd : (l.drop p).dropWhile blankB = (l.drop k).dropWhile blankB) {q : List UInt8 × Nat} (he : encW (l.drop k) = some q) : gapP (l.drop p) = l.drop k := by
 have h1 : (l.drop k).dropWhile blankB = l.drop k := by
  rw [List.drop_eq_getElem_cons hk, List.dropWhile_cons_of_neg (by rw [hb]; decide)]
 unfold gapP
 rw [hd, h1, he]
 rfl
theorem gap_none {l : List UInt8} {k p : Nat} (hk : k < l.length) (hb : blankB (l[k]) = false) (hd : (l.drop p).dropWhile blankB = (l.drop k).dropWhile blankB) (he : encW (l.drop k) = none) : gapP (l.drop p) = l.drop p := by
 have h1 : (l.drop k).dropWhile blankB = l.drop k := by
  rw [List.drop_eq_getElem_cons hk, List.dropWhile_cons_of_neg (by rw [hb]; decide)]
 unfold gapP
 rw [hd, h1, he]
 rfl
theorem gap_end {l : List UInt8} {p : Nat} (hd : (l.drop p).dropWhile blankB = (l.drop l.length).dropWhile blankB) : gapP (l.drop p) = l.drop p := by
 unfold gapP
 rw [hd, List.drop_length]
 rfl
theorem gap_go {l : List UInt8} {k p : Nat} (hk : k < l.length) (hb : blankB (l[k]) = true) (hd : (l.drop p).dropWhile blankB = (l.drop k).dropWhile blankB) : (l.drop p).dropWhile blankB = (l.drop (k + 1)).dropWhile blankB := by
 rw [hd, List.drop_eq_getElem_cons hk, List.dropWhile_cons_of_pos hb]
structure DwRel (w : World) (l : List UInt8) (p : Nat) (wr : World) : Prop where
 ex : ∃ acc, Bld wr w.heap.size w.heap.size acc ∧ acc ++ wordsW (l.drop p) = wordsW l ∧ acc.length ≤ 4 * p
 bel : Below w.heap.size w wr
structure GpRel (w : World) (l : List UInt8) (p k : Nat) (wr : World) : Prop where
 ex : ∃ acc, Bld wr w.heap.size w.heap.size acc ∧ acc ++ wordsW (gapP (l.drop p)) = wordsW l ∧ acc.length ≤ 4 * p
 gap : (l.drop p).dropWhile blankB = (l.drop k).dropWhile blankB
 bel : Below w.heap.size w wr
theorem GpRel.next {w wr : World} {l : List UInt8} {p k : Nat} (h : GpRel w l p k wr) (hk : k < l.length) (hb : blankB (l[k]) = true) : GpRel w l p (k + 1) wr := ⟨h.ex, gap_go hk hb h.gap, h.bel⟩
theorem GpRel.some_ {w wr : World} {l : List UInt8} {p k : Nat} (h : GpRel w l p k wr) (hpk : p ≤ k) (hk : k < l.length) (hb : blankB (l[k]) = false) {q : List UInt8 × Nat} (he : encW (l.drop k) = some q) {w' : World} (hw : Below wr.heap.size wr w') : DwRel w l k w' := by
 obtain ⟨acc, h1, h2, h3⟩ := h.ex
 exact ⟨⟨acc, h1.below hw, by rw [gap_some hk hb h.gap he] at h2; exact h2, by omega⟩, h.bel.trans (hw.mono h.bel.size)⟩
theorem GpRel.none_ {w wr : World} {l : List UInt8} {p k : Nat} (h : GpRel w l p k wr) (hk : k < l.length) (hb : blankB (l[k]) = false) (he : encW (l.drop k) = none) {w' : World} (hw : Below wr.heap.size wr w') : DwRel w l p w' := by
 obtain ⟨acc, h1, h2, h3⟩ := h.ex
 exact ⟨⟨acc, h1.below hw, by rw [gap_none hk hb h.gap he] at h2; exact h2, h3⟩, h.bel.trans (hw.mono h.bel.size)⟩
theorem GpRel.end_ {w wr : World} {l : List UInt8} {p : Nat} (h : GpRel w l p l.length wr) : DwRel w l p wr := by
 obtain ⟨acc, h1, h2, h3⟩ := h.ex
 exact ⟨⟨acc, h1, by rw [gap_end h.gap] at h2; exact h2, h3⟩, h.bel⟩
set_option maxRecDepth 100000 in
theorem words_any (l : List UInt8) (w : World) (hl : l.length ≤ 100000000) (hT : Tabs w) :
  Calls Tryz.prog 49 #[.string (ba l)] w (StrB w (wordsP l)) := by
 have HB0 := Lib.hid (bld_new w)
 have HT := Lib.hid hT
 have HDR := Lib.hid (fun k => ba_drop l k)
 have HWO := Lib.hid (fun k W hW => encword_any (l.drop k) W (by rw [List.length_drop]; omega) hW)
 unfold WordPost at HWO
 clear hT
 obtain ⟨n, hn⟩ : ∃ n, l.length = n := ⟨_, rfl⟩
 have HL := Lib.hid hn
 obtain ⟨s, hs⟩ : ∃ s, ba l = s := ⟨_, rfl⟩
 have HS := Lib.hid hs
 have HZ := Lib.hid (show s.size = n by rw [← hs, ba_size, hn])
 have hsz : (s.size : Int) = n := by rw [HZ.out]
 rw [hs]
 rw [hn] at hl
 clear hs hn
 simp only [HS.out] at HDR
 go_enter Tryz.func49, Tryz.ntmps49
 go_wp2
 go_step3
 go_wp2
 go_step3
 go_wp2
 go_loopw [4, 5, 6, 7, 8, 9] (fun a b c d e f wr => ∃ (p : Nat) (y z u v x : Value), b = y ∧ c = z ∧ d = u ∧ e = v ∧ f = x ∧ p ≤ n ∧ a = .int .i64 (p : Int) ∧ Hid (DwRel w l p wr)) (fun a _ _ _ _ _ _ => n - (intOf a).toNat)
 case atStart => exact ⟨0, _, _, _, _, _, rfl, rfl, rfl, rfl, rfl, by omega, rfl, Lib.hid ⟨⟨[], HB0.out, by rw [List.drop_zero]; rfl, by simp⟩, (Below.refl _ _).alloc (Nat.le_refl _) _⟩⟩
 case round =>
  obtain ⟨p, y, z, u, v, x, rfl, rfl, rfl, rfl, rfl, hp, rfl, HR⟩ := hrel
  have hszr := HR.out.bel.size
  by_cases hlt : p < n
  ·have hk2 : (p : Int) < (n : Int) := by omega
   have hk0 : (0 : Int) ≤ (p : Int) := by omega
   have hks : p < s.size := by rw [HZ.out]; omega
   have hkl : p < l.length := by rw [HL.out]; omega
   have hget : s[p] = l[p] := by
    have h := HS.out
    subst h
    rfl
   have hx1 := HDR.out p
   have HX1 := Lib.hid hx1
   have HWP := Lib.hid (HWO.out p _ (HT.out.below HR.out.bel))
   have hcons := List.drop_eq_getElem_cons hkl
   have HNO := Lib.hid (fun (h : encW (l.drop p) = none) => by rw [hcons] at h; have := wordsW_none h; rw [← hcons] at this; exact this)
   have HSO := Lib.hid (fun t m (h : encW (l.drop p) = some (t, m)) => by rw [hcons] at h; have := wordsW_some h; rw [← hcons, List.drop_drop] at this; exact this)
   obtain ⟨acc, hbld, heq, hal⟩ := HR.out.ex
   have HBL := Lib.hid hbld
   have HEQ := Lib.hid heq
   have HAL := Lib.hid hal
   have HBE := Lib.hid HR.out.bel
   clear hbld heq hal hcons hx1 HR
   cases he : encW (l.drop p) with
   | none =>
    have HN1 := Lib.hid (HNO.out he)
    simp only [he, Option.getD_none] at HWP
    clear he HSO HNO
    obtain ⟨c, hc⟩ : ∃ c, l[p] = c := ⟨_, rfl⟩
    rw [hc] at hget HN1
    obtain ⟨X, hx⟩ : ∃ x : Int, (c.toNat : Int) = x := ⟨_, rfl⟩
    have hgi : ((s[p]).toNat : Int) = X := by rw [hget]; exact hx
    have HX := Lib.hid hx
    have hx0 : 0 ≤ X := by omega
    have hx1 : X ≤ 255 := by have := c.toNat_lt; omega
    clear hc hkl hget hx
    go_wp2_with fail
    rw [HX1.out]
    refine HWP.out.mono ?_
    rintro e w2 ⟨rfl, hb2⟩
    have HB2 := Lib.hid (HBE.out.trans (hb2.mono hszr))
    have HWB := Lib.hid (wb_int _ _ acc X c w2 HX.out (HBL.out.below hb2) (by have := HAL.out; omega) HB2.out.size)
    clear hb2
    go_wp2_with fail
    refine HWB.out.mono ?_
    rintro e w3 ⟨rfl, hW⟩
    have HN := Lib.hid (show DwRel w l (p + 1) w3 from ⟨⟨acc ++ [c], hW.bld, by rw [← HEQ.out, HN1.out]; simp, by have := HAL.out; simp; omega⟩, HB2.out.trans hW.bel⟩)
    clear hW
    go_wp2
    go_roundw
    case rel => exact ⟨p + 1, _, _, _, _, _, rfl, rfl, rfl, rfl, rfl, by omega, by go_num, HN⟩
    case measure => simp [intOf] <;> omega
   | some q =>
    obtain ⟨t, m⟩ := q
    have hm := encW_pos he
    rw [List.length_drop, HL.out] at hm
    have htl := encW_len he
    have HS1 := Lib.hid (HSO.out t m he)
    simp only [he, Option.getD_some] at HWP
    have hm0 : ((m : Int) == 0) = false := by rw [beq_eq_false_iff_ne]; omega
    have hmi : (m : Int) ≤ 1000000000 := by omega
    have hmz : (0 : Int) ≤ (m : Int) := by omega
    have HTL := Lib.hid htl
    have HMN := Lib.hid hm
    clear he HSO HNO htl hget hkl
    go_wp2_with fail
    rw [HX1.out]
    refine HWP.out.mono ?_
    rintro e w2 ⟨rfl, hb2⟩
    have HB2 := Lib.hid (HBE.out.trans (hb2.mono hszr))
    have HWS := Lib.hid (write_string _ _ acc t w2 (HBL.out.below hb2) (by have := HAL.out; have := HTL.out; omega) HB2.out.size)
    clear hb2
    go_wp2_with fail
    refine HWS.out.mono ?_
    rintro e w3 ⟨rfl, hW⟩
    have HN := Lib.hid (show GpRel w l (p + m) (p + m) w3 from ⟨⟨acc ++ t, hW.bld, by rw [List.append_assoc, ← HS1.out]; exact HEQ.out, by have := HAL.out; have := HTL.out; rw [List.length_append]; omega⟩, rfl, HB2.out.trans hW.bel⟩)
    clear hW
    have hpm : (p : Int) + (m : Int) ≤ 2000000000 := by omega
    have hszr3 : w.heap.size ≤ w3.heap.size := HN.out.bel.size
    obtain ⟨P, hP⟩ : ∃ P, p + m = P := ⟨_, rfl⟩
    have hPi : (p : Int) + (m : Int) = (P : Int) := by omega
    have hPn : P ≤ n := by omega
    have hPp : p < P := by omega
    rw [hP] at HN
    clear hP hszr hk2 hk0 hks HWP HX1 HS1 HEQ HAL HBL HBE HB2 HWS hmz hmi hm0 hm HTL HMN
    go_wp2
    go_loopw [4, 7, 8, 9] (fun q a b c wr => ∃ (k : Nat) (y z : Value), b = y ∧ c = z ∧ q = .int .i64 (P : Int) ∧ P ≤ k ∧ k ≤ n ∧ a = .int .i64 (k : Int) ∧ Hid (GpRel w l P k wr)) (fun _ a _ _ _ => n - (intOf a).toNat)
    case atStart => exact ⟨P, _, _, rfl, rfl, by go_num, Nat.le_refl _, hPn, by go_num, HN⟩
    case round =>
     obtain ⟨k, y, z, rfl, rfl, rfl, hPk, hk, rfl, HG⟩ := hrel
     have hszg := HG.out.bel.size
     by_cases hlk : k < n
     ·have hk2 : (k : Int) < (n : Int) := by omega
      have hk0 : (0 : Int) ≤ (k : Int) := by omega
      have hks : k < s.size := by rw [HZ.out]; omega
      have hkl : k < l.length := by rw [HL.out]; omega
      have hget : s[k] = l[k] := by
       have h := HS.out
       subst h
       rfl
      have hxk := HDR.out k
      have HXK := Lib.hid hxk
      have hki : (k : Int) ≤ ((s.size : Nat) : Int) := by rw [hsz]; omega
      have HWK := Lib.hid (HWO.out k wr (HT.out.below HG.out.bel))
      have HNX := Lib.hid (fun h => HG.out.next hkl h)
      have HSM := Lib.hid (fun (h1 : blankB (l[k]) = false) q (h2 : encW (l.drop k) = some q) w' (hw : Below wr.heap.size wr w') => HG.out.some_ hPk hkl h1 h2 hw)
      have HNE := Lib.hid (fun (h1 : blankB (l[k]) = false) (h2 : encW (l.drop k) = none) w' (hw : Below wr.heap.size wr w') => HG.out.none_ hkl h1 h2 hw)
      clear hxk
      obtain ⟨c, hc⟩ : ∃ c, l[k] = c := ⟨_, rfl⟩
      rw [hc] at hget HNX HSM HNE
      obtain ⟨X, hx⟩ : ∃ x : Int, (c.toNat : Int) = x := ⟨_, rfl⟩
      have hgi : ((s[k]).toNat : Int) = X := by rw [hget]; exact hx
      have HX := Lib.hid hx
      have hx0 : 0 ≤ X := by omega
      have hx1 : X ≤ 255 := by have := c.toNat_lt; omega
      clear hc hkl hget hx
      have HBK := Lib.hid (show Calls Tryz.prog 103 #[.int .u8 X] wr fun e w' => e = .returned (.bool (blankB c)) ∧ w' = wr by rw [← HX.out]; exact wblank_any c wr)
      cases hb : blankB c with
      | true =>
       rw [hb] at HBK
       have HN2 := Lib.hid (HNX.out hb)
       clear hb HNX HSM HNE HWK
       go_wp2_with fail
       refine HBK.out.mono ?_
       rintro e w4 ⟨rfl, hw⟩
       have hw2 := hw.symm
       subst hw2
       clear hw
       go_wp2
       go_roundw
       case rel => exact ⟨k + 1, _, _, rfl, rfl, rfl, by omega, by omega, by go_num, HN2⟩
       case measure => simp [intOf] <;> omega
      | false =>
       rw [hb] at HBK
       cases he : encW (l.drop k) with
       | none =>
        have HN2 := Lib.hid (HNE.out hb he)
        simp only [he, Option.getD_none] at HWK
        clear hb he HNX HSM HNE
        go_wp2_with fail
        refine HBK.out.mono ?_
        rintro e w4 ⟨rfl, hw⟩
        have hw2 := hw.symm
        subst hw2
        clear hw
        go_wp2_with fail
        rw [HXK.out]
        refine HWK.out.mono ?_
        rintro e w5 ⟨rfl, hb5⟩
        have HN3 := Lib.hid (HN2.out w5 hb5)
        clear hb5
        go_wp2
        go_roundw
        case rel => exact ⟨P, _, _, _, _, _, rfl, rfl, rfl, rfl, rfl, by omega, by go_num, HN3⟩
        case measure => simp [intOf] <;> omega
       | some q =>
        obtain ⟨t2, m2⟩ := q
        have HN2 := Lib.hid (HSM.out hb (t2, m2) he)
        have hm2 := encW_pos he
        simp only [he, Option.getD_some] at HWK
        have gm2 : decide ((0 : Int) < (m2 : Int)) = true := decide_eq_true (by omega)
        have gm3 : 0 < m2 := hm2.1
        clear hb he HNX HSM HNE hm2
        go_wp2_with fail
        refine HBK.out.mono ?_
        rintro e w4 ⟨rfl, hw⟩
        have hw2 := hw.symm
        subst hw2
        clear hw
        go_wp2_with fail
        rw [HXK.out]
        refine HWK.out.mono ?_
        rintro e w5 ⟨rfl, hb5⟩
        have HN3 := Lib.hid (HN2.out w5 hb5)
        clear hb5
        go_wp2
        go_roundw
        case rel => exact ⟨k, _, _, _, _, _, rfl, rfl, rfl, rfl, rfl, by omega, by go_num, HN3⟩
        case measure => simp [intOf] <;> omega
     ·obtain rfl : k = n := by omega
      have HN2 := Lib.hid (show DwRel w l P wr by have := HG.out; rw [← HL.out] at this; exact this.end_)
      go_wp2
      go_roundw
      case rel => exact ⟨P, _, _, _, _, _, rfl, rfl, rfl, rfl, rfl, by omega, by go_num, HN2⟩
      case measure => simp [intOf] <;> omega
  ·obtain rfl : p = n := by omega
   obtain ⟨acc, hbld, heq, hal⟩ := HR.out.ex
   have HBL := Lib.hid hbld
   have HBE := Lib.hid HR.out.bel
   have hac : acc = wordsW l := by rw [← heq, List.drop_of_length_le (by rw [HL.out]; exact Nat.le_refl _), wordsW_nil, List.append_nil]
   have HF := Lib.hid (show wordsP l = repairP acc by rw [hac]; rfl)
   have HRP := Lib.hid (fun W hW => repair_any acc W (by omega) hW)
   unfold StrB at HRP
   clear hbld heq hal hac HR
   go_wp2_with fail
   refine (bld_string _ _ _ wr HBL.out hszr).mono ?_
   rintro e w2 ⟨rfl, hW⟩
   have HB2 := Lib.hid (HBE.out.trans hW.bel)
   clear hW
   go_wp2_with fail
   refine (HRP.out _ (HT.out.below HB2.out)).mono ?_
   rintro e w3 ⟨rfl, hb3⟩
   have HB3 := Lib.hid (HB2.out.trans (hb3.mono HB2.out.size))
   clear hb3
   go_wp2
   go_ret
   exact str_fin (by rw [HF.out]) HB3.out
end Go.Proofs.YthidbmeaccpjdaaGreatDoor
section
namespace Go.Proofs.YthidbmeaccpjdaaGreatDoor
open Go.ChangeMaps
open Go Go.ChangeShapes Go.WideShapes Go.ChangeAt Go.RowKit Go.Deep Go.Lib
set_option linter.unusedVariables false
theorem own_ : ownKnob Tryz.prog.godebug = none := by kernel_rfl
def laid15 : List (String × DataW Unit) := Rows.decodeCutsRow.laid
theorem laid15_plain (w : World) : laidMetH Tryz.prog laid15 w = laidMet Tryz.prog laid15 w := MakeChecks.laidMetH_plain _ _ _ (by kernel_rfl)
theorem u8x : Go.Proofs.U8Extra Tryz.prog Tryz.lays260_ren := ⟨by kernel_rfl, by kernel_rfl, by kernel_rfl, by kernel_rfl, by kernel_rfl, by kernel_rfl, by kernel_rfl⟩
theorem acc_eq : (Rows.laid_unicode_utf8_acceptRanges : DataW Unit) = acceptData := by kernel_rfl
theorem mem_first : ("unicode/utf8.first", firstData) ∈ laid15 := by
 rw [← Pinned.utf8First_eq]
 exact List.mem_of_getElem? (i := 7) (by kernel_rfl)
theorem mem_acc : ("unicode/utf8.acceptRanges", acceptData) ∈ laid15 := by
 rw [← acc_eq]
 exact List.mem_of_getElem? (i := 3) (by kernel_rfl)
theorem gER : Tryz.prog.globalNamed "strconv.ErrRange" = some 6 := by kernel_rfl
theorem gERType : (Tryz.prog.globals[(6 : Nat)]?).map (·.type) = some 68 := by kernel_rfl
theorem cells_es : Tryz.prog.cellsOf 294 = 1 := by kernel_rfl
theorem cells_st : Tryz.prog.cellsOf 9 = 1 := by kernel_rfl
theorem star_es : "*" ++ "errors.errorString" = "*errors.errorString" := by decide
theorem row_es (u : TypeId) (h : Tryz.prog.typeName? 3 u = some "*errors.errorString") : u = 292 :=
 typeName_ptr_named (nm := "errors.errorString") (by rw [star_es]; kernel_rfl) (by kernel_rfl) (by decide) u (by rw [star_es]; exact h)
theorem tabs_of {W : World} (hL : laidMetH Tryz.prog laid15 W) (hS : W.ShapedOpen Tryz.prog) : Tabs W := by
 rw [laid15_plain] at hL
 have hu : Lib.Utf8Tabs 1 2 W := utf8Tabs_of_reads Tryz.lays260 u8x (laidMet.reads hL mem_first) (laidMet.reads hL mem_acc)
 have hm : ∃ m, W.cell? ⟨3, 0, none⟩ = some (.int .i64 m) := Go.Proofs.cell_of_shapedOpen_int (zero := #[.int .i64 0]) (t := 3) hS (of_decide_eq_true (by kernel_rfl)) (by kernel_rfl) rfl (by kernel_rfl) (by kernel_rfl) Tryz.underlying3
 have hE := hL.tail.tail.tail.tail
 obtain ⟨a1, s1, hv1, -, -, -⟩ := laid_sentinel hE gER gERType Tryz.underlying68 row_es Tryz.underlying292 Tryz.underlying294 rfl rfl Tryz.underlying9 cells_es cells_st
 have h0 : W.cell? ⟨6, 0, none⟩ = some (.iface 292 (.pointer (some a1))) := by have h0 := World.var?_cell gER hv1 0; simpa using h0
 obtain ⟨m, hm2⟩ := hm
 refine ⟨hu, ⟨_, h0, .inr ⟨_, _, rfl⟩⟩, ⟨m, hm2⟩, ?_, ?_, ?_, ?_⟩
 ·exact World.block_lt_of_cell? W _ (hu.1 0 (by decide))
 ·exact World.block_lt_of_cell? W _ (hu.2 0 (by decide)).1
 ·exact World.block_lt_of_cell? W _ hm2
 ·exact World.block_lt_of_cell? W _ h0
theorem gEnt : Tryz.prog.globalNamed "pouch/decode.entities" = some 0 := by kernel_rfl
theorem tEnt : (Tryz.prog.globals[(0 : Nat)]?).map (·.type) = some 114 := by kernel_rfl
def entD : List (List UInt8 × Int) := [([97, 109, 112], 38), ([97, 112, 111, 115], 39), ([103, 116], 62), ([108, 116], 60), ([110, 98, 115, 112], 32), ([113, 117, 111, 116], 34)]
theorem ent_datum {H : Type} : (Rows.laid_pouch_decode_entities : DataW H) = .map (entD.map fun q => (.string q.1, .lit (.int .i32 q.2))) := rfl
theorem ent_find (name : List UInt8) : entR name = (entD.find? fun q => q.1 == name).map (·.2) := by
 unfold entR entNames entD
 by_cases h0 : name = [97, 109, 112]
 ·subst h0; rfl
 by_cases h1 : name = [97, 112, 111, 115]
 ·subst h1; rfl
 by_cases h2 : name = [103, 116]
 ·subst h2; rfl
 by_cases h3 : name = [108, 116]
 ·subst h3; rfl
 by_cases h4 : name = [110, 98, 115, 112]
 ·subst h4; rfl
 by_cases h5 : name = [113, 117, 111, 116]
 ·subst h5; rfl
 have e : ∀ l : List UInt8, name ≠ l → ¬ l = name := fun l h e => h e.symm
 simp [e _ h0, e _ h1, e _ h2, e _ h3, e _ h4, e _ h5]
theorem at_find {H : Type} (L : List (List UInt8 × Int)) (name : List UInt8) (z : DataW H) : (DataW.map (L.map fun q => ((Lit.string q.1 : Lit), (DataW.lit (.int .i32 q.2) : DataW H)))).atKey (.string name) z = match (L.find? fun q => q.1 == name).map (·.2) with
  | some v => .lit (.int .i32 v)
  | none => z := by
 unfold DataW.atKey
 induction L with
 | nil => rfl
 | cons q r ih =>
  simp only [List.map_cons, List.find?_cons]
  have e : (Lit.string q.1).sameKey (.string name) = (q.1 == name) := rfl
  rw [e]
  cases q.1 == name with
  | true => rfl
  | false => exact ih
set_option maxRecDepth 100000 in
theorem ent_of {W : World} (hL : laidMetH Tryz.prog laid15 W) : EntM W := by
 rw [laid15_plain] at hL
 have h6 := hL.tail.tail.tail.tail.tail.tail
 obtain ⟨ps, ⟨g0, t0, cs0, f0, p0, q0, hg0, ht0, hv0, hd0, _⟩, _, _⟩ := h6
 obtain rfl := Option.some.inj (gEnt.symm.trans hg0)
 obtain rfl := Option.some.inj (tEnt.symm.trans ht0)
 rcases Go.WideElems.open_map Tryz.underlying114 hd0 with ⟨_, hx⟩ | ⟨bm, es, clock, m, rfl, hcs, hb, _, F, hx⟩
 ·rw [ent_datum] at hx
  simp at hx
 ·simp only [Prod.mk.injEq] at hx
  have hcell : W.cell? ⟨0, 0, none⟩ = some (.map (some bm)) := by
   have := World.var?_cell hg0 hv0 0
   rw [Array.eq_one_of_toList hcs] at this
   simpa using this
  refine ⟨bm, hcell, World.block_lt_of_cell? W _ hcell, fun w' hb' name hn => ?_⟩
  have hbm : w'.heap[bm]? = some (.map es clock) := (hb'.block bm (heap_lt hb)).trans hb
  have zero : (zeroValue 21).run Tryz.prog w' = .ok (.int .i32 0) w' := by kernel_rfl
  have hk : keyOf Tryz.prog 9 (.string (ba name)) = some (.string name) := by
   have h := Go.WideMaps.keyOf_string_mk (s := ba name) Tryz.underlying9 (by rw [ba_size]; unfold maxLen; omega)
   rw [ba_list] at h
   exact h
  have hD := at_find (H := Unit) entD name
  rw [← ent_find] at hD
  rw [ent_datum] at hx
  rcases Go.WideElems.fit_lookup_ok (w := w') (Go.WideMaps.string_law Tryz.underlying9) Tryz.underlying114 zero hbm F hk with ⟨hrun, hat⟩ | ⟨v, y, hrun, hRv, hat, _⟩
  ·rw [hrun]
   have h1 := hat (.lit (.bool true))
   rw [← hx.1, hD] at h1
   cases he : entR name with
   | none => rfl
   | some x => rw [he] at h1; cases h1
  ·obtain ⟨r, rfl, rfl, _⟩ := Go.WideElems.elemAt_int Tryz.underlying21 hRv
   rw [hrun]
   have h1 := hat .nil
   rw [← hx.1, hD] at h1
   cases he : entR name with
   | none => rw [he] at h1; cases h1
   | some x =>
    rw [he] at h1
    injection h1 with h1
    injection h1 with _ h1
    subst h1
    rfl
noncomputable def world0 (os : Os) : World := { World.holding Tryz.prog os ⟨#[], #[], []⟩ with heap := ((World.holding Tryz.prog os ⟨#[], #[], []⟩).heap.setIfInBounds 0 (.cells #[.map (some (World.holding Tryz.prog os ⟨#[], #[], []⟩).heap.size)] 114 (0, 0))).push (.map #[⟨.string ⟨#[97, 109, 112]⟩, .int .i32 38, 0⟩, ⟨.string ⟨#[97, 112, 111, 115]⟩, .int .i32 39, 1⟩, ⟨.string ⟨#[103, 116]⟩, .int .i32 62, 2⟩, ⟨.string ⟨#[108, 116]⟩, .int .i32 60, 3⟩, ⟨.string ⟨#[110, 98, 115, 112]⟩, .int .i32 32, 4⟩, ⟨.string ⟨#[113, 117, 111, 116]⟩, .int .i32 34, 5⟩] 6) }
def great15 : List String := ["math/bits.deBruijn32tab", "math/bits.deBruijn64tab", "internal/strconv.uint64pow10", "unicode/utf8.acceptRanges", "strconv.ErrRange", "strconv.ErrSyntax", "unicode/utf8.first"]
noncomputable def world15 (os : Os) : World := (world0 os).layVars Tryz.prog (laid15.filter fun x => great15.contains x.1)
theorem world15_os (os : Os) : (world15 os).os = os := World.layVars_os _ _ _
theorem met15 (os : Os) (args : Array Value) : laidMetH Tryz.prog laid15 ((world15 os).forCall (fun _ _ => 0) ⟨#[], args, []⟩).memory := by
 rw [laid15_plain]
 refine laidMet_layVars (w0 := world0 os) great15 [0, 15] (by simp [World.memory, World.forCall, Input.heap, world15]) (by kernel_rfl) (by kernel_rfl) ?_
 exact LaidIn.of_run [0, 15] 8 (by kernel_rfl) (by kernel_rfl) (by kernel_rfl) (by kernel_rfl)
end Go.Proofs.YthidbmeaccpjdaaGreatDoor
end
