/- Layer 13: the contracts of blank and Decode (printed by gen_words.py). How long the params of a content type are. A part's own words in memory: one struct, its params a slice. Rows of pouch/api.Part in memory: read, owned, grown by one or by a row (printed by gen_row.py). Layer 14, plain: what read and inner give; and the state of Parse's closure. -/
import Derived.WalkMore
import Derived.Test.YthidbmeaccpjdaaGreatDoorM20
import Derived.Test.YthidbmeaccpjdaaGreatDoorM02
import Derived.Test.YthidbmeaccpjdaaGreatDoorM12
import Derived.Test.YthidbmeaccpjdaaGreatDoorM09
import Derived.Test.YthidbmeaccpjdaaGreatDoorM11
import Derived.Test.YthidbmeaccpjdaaGreatDoorM01
import Derived.Test.YthidbmeaccpjdaaGreatDoorM14
import Derived.Test.YthidbmeaccpjdaaGreatDoorM18
section
namespace Go.Proofs.YthidbmeaccpjdaaGreatDoor
open Go.RowKit
set_option linter.unusedVariables false
theorem wblank_any (c : UInt8) (w : World) : Calls Tryz.prog 103 #[.int .u8 (c.toNat : Int)] w fun e w' => e = .returned (.bool (blankB c)) ∧ w' = w := by
 have HF := Lib.hid (blankB_int c)
 obtain ⟨x, hx⟩ : ∃ x : Int, (c.toNat : Int) = x := ⟨_, rfl⟩
 rw [hx] at HF ⊢
 clear hx
 by_cases e9 : x = 9
 ·have g9 : (x == 9) = true := by simpa using e9
  have HG := Lib.hid (show blankB c = true by rw [HF.out]; simp [*])
  clear HF e9
  go_enter Tryz.func103, Tryz.ntmps103
  go_wp2
  go_ret
  exact ⟨by rw [HG.out]; rfl, rfl⟩
 have g9 : (x == 9) = false := by simpa using e9
 by_cases e10 : x = 10
 ·have g10 : (x == 10) = true := by simpa using e10
  have HG := Lib.hid (show blankB c = true by rw [HF.out]; simp [*])
  clear HF e9 e10
  go_enter Tryz.func103, Tryz.ntmps103
  go_wp2
  go_ret
  exact ⟨by rw [HG.out]; rfl, rfl⟩
 have g10 : (x == 10) = false := by simpa using e10
 by_cases e13 : x = 13
 ·have g13 : (x == 13) = true := by simpa using e13
  have HG := Lib.hid (show blankB c = true by rw [HF.out]; simp [*])
  clear HF e9 e10 e13
  go_enter Tryz.func103, Tryz.ntmps103
  go_wp2
  go_ret
  exact ⟨by rw [HG.out]; rfl, rfl⟩
 have g13 : (x == 13) = false := by simpa using e13
 by_cases e32 : x = 32
 ·have g32 : (x == 32) = true := by simpa using e32
  have HG := Lib.hid (show blankB c = true by rw [HF.out]; simp [*])
  clear HF e9 e10 e13 e32
  go_enter Tryz.func103, Tryz.ntmps103
  go_wp2
  go_ret
  exact ⟨by rw [HG.out]; rfl, rfl⟩
 have g32 : (x == 32) = false := by simpa using e32
 have HG := Lib.hid (show blankB c = false by rw [HF.out]; simp [*])
 clear HF
 clear e9 e10 e13 e32
 go_enter Tryz.func103, Tryz.ntmps103
 go_wp2
 go_ret
 exact ⟨by rw [HG.out]; rfl, rfl⟩
theorem gapP_len (r : List UInt8) : (gapP r).length ≤ r.length := by
 unfold gapP
 split
 ·exact (List.dropWhile_suffix _).length_le
 ·exact Nat.le_refl _
theorem wordsF_fuel : ∀ (f g : Nat) (l : List UInt8), l.length ≤ f → l.length ≤ g → wordsF f l = wordsF g l
 | 0, g, l, hf, _ => by
  have : l = [] := List.eq_nil_of_length_eq_zero (by omega)
  subst this
  cases g <;> rfl
 | f + 1, 0, l, _, hg => by
  have : l = [] := List.eq_nil_of_length_eq_zero (by omega)
  subst this
  rfl
 | f + 1, g + 1, [], _, _ => rfl
 | f + 1, g + 1, c :: r, hf, hg => by
  have h1 : r.length ≤ f := by simp at hf; omega
  have h2 : r.length ≤ g := by simp at hg; omega
  unfold wordsF
  cases he : encW (c :: r) with
  | none =>
   show c :: wordsF f r = c :: wordsF g r
   rw [wordsF_fuel f g r h1 h2]
  | some q =>
   obtain ⟨t, n⟩ := q
   have hn := encW_pos he
   have h3 := gapP_len ((c :: r).drop n)
   rw [List.length_drop, List.length_cons] at h3
   show t ++ wordsF f (gapP ((c :: r).drop n)) = t ++ wordsF g (gapP ((c :: r).drop n))
   rw [wordsF_fuel f g _ (by omega) (by omega)]
def wordsW (l : List UInt8) : List UInt8 := wordsF l.length l
theorem wordsW_nil : wordsW [] = [] := rfl
theorem wordsW_none {c : UInt8} {r : List UInt8} (h : encW (c :: r) = none) : wordsW (c :: r) = c :: wordsW r := by
 unfold wordsW
 rw [List.length_cons]
 conv => lhs; unfold wordsF
 rw [h]
theorem wordsW_some {c : UInt8} {r t : List UInt8} {n : Nat} (h : encW (c :: r) = some (t, n)) : wordsW (c :: r) = t ++ wordsW (gapP ((c :: r).drop n)) := by
 have hn := encW_pos h
 have h3 := gapP_len ((c :: r).drop n)
 rw [List.length_drop, List.length_cons] at h3
 unfold wordsW
 rw [List.length_cons]
 conv => lhs; unfold wordsF
 rw [h]
 show t ++ wordsF r.length (gapP ((c :: r).drop n)) = _
 rw [wordsF_fuel _ (gapP ((c :: r).drop n)).length _ (by omega) (Nat.le_refl _)]
theorem encs_len (f : UInt8 → Nat) (l : List UInt8) : (bytesBy f l).length ≤ 4 * l.length := by
 unfold bytesBy
 induction l with
 | nil => simp
 | cons a r ih =>
  have := enc_len (f a : Nat)
  rw [List.flatMap_cons, List.length_append, List.length_cons]
  omega
theorem runes_len : ∀ (f : Nat) (l : List UInt8), (runesF f l).length ≤ l.length
 | 0, _ => Nat.zero_le _
 | f + 1, l => by
  unfold runesF
  split
  ·exact Nat.zero_le _
  ·rename_i h
   have h1 := (uN_pos l h).1
   have h2 := runes_len f (l.drop (uN l).2)
   have h3 : 0 < l.length := List.length_pos_iff.2 h
   rw [List.length_drop] at h2
   rw [List.length_cons]
   omega
theorem repair_len (l : List UInt8) : (repairP l).length ≤ 4 * l.length := by
 rw [repairP_eq]
 have h1 := joinR_len (runesP l)
 have h2 : (runesP l).length ≤ l.length := runes_len _ l
 omega
theorem decodeSet_len (a x : List UInt8) : (decodeSet a x).length ≤ 4 * x.length := by
 unfold decodeSet
 split
 ·exact encs_len _ _
 ·exact repair_len _
 ·exact encs_len _ _
 ·exact encs_len _ _
theorem encW_len {s t : List UInt8} {n : Nat} (h : encW s = some (t, n)) : t.length ≤ 4 * n := by
 unfold encW at h
 split at h
 ·rename_i x y rest
  split at h
  ·cases h1 : cutP 63 rest with
   | none => rw [h1] at h; cases h
   | some q =>
    obtain ⟨a, r1⟩ := q
    rw [h1] at h
    dsimp only at h
    cases h2 : cutP 63 r1 with
    | none => rw [h2] at h; cases h
    | some q =>
     obtain ⟨b, r2⟩ := q
     rw [h2] at h
     dsimp only at h
     cases h3 : cutP 63 r2 with
     | none => rw [h3] at h; cases h
     | some q =>
      obtain ⟨c, d⟩ := q
      rw [h3] at h
      dsimp only at h
      split at h
      ·cases h
      ·cases h4 : wordBy b c with
       | none => rw [h4] at h; cases h
       | some v =>
        have hv : v.length ≤ c.length := by
         unfold wordBy at h4
         split at h4
         ·injection h4 with h4; subst h4; exact unb64P_len c
         ·split at h4
          ·injection h4 with h4; subst h4; exact unqQ_len c
          ·cases h4
        rw [h4] at h
        injection h with h
        injection h with h5 h6
        have := decodeSet_len a v
        subst h5
        subst h6
        omega
  ·cases h
 ·cases h
theorem gap_some {l : List UInt8} {k p : Nat} (hk : k < l.length) (hb : blankB (l[k]) = false) (hd : (l.drop p).dropWhile blankB = (l.drop k).dropWhile blankB) {q : List UInt8 × Nat} (he : encW (l.drop k) = some q) : gapP (l.drop p) = l.drop k := by
 have h1 : (l.drop k).dropWhile blankB = l.drop k := by
  rw [List.drop_eq_getElem_cons hk, List.dropWhile_cons_of_neg (by rw [hb]; decide)]
 unfold gapP
 rw [hd, h1, he]
 rfl
theorem gap_none {l : List UInt8} {k p : Nat} (hk : k < l.length) (hb : blankB (l[k]) = false) (hd : (l.drop p).dropWhile blankB = (l.drop k).dropWhile blankB) (he : encW (l.drop k) = none) : gapP (l.drop p) = l.drop p := by
 have h1 : (l.drop k).dropWhile blankB = l.drop k := by
  rw [List.drop_eq_getElem_cons hk, List.dropWhile_cons_of_neg (by rw [hb]; decide)]
 unfold gapP
 rw [hd, h1, he]
 rfl
theorem gap_end {l : List UInt8} {p : Nat} (hd : (l.drop p).dropWhile blankB = (l.drop l.length).dropWhile blankB) : gapP (l.drop p) = l.drop p := by
 unfold gapP
 rw [hd, List.drop_length]
 rfl
theorem gap_go {l : List UInt8} {k p : Nat} (hk : k < l.length) (hb : blankB (l[k]) = true) (hd : (l.drop p).dropWhile blankB = (l.drop k).dropWhile blankB) : (l.drop p).dropWhile blankB = (l.drop (k + 1)).dropWhile blankB := by
 rw [hd, List.drop_eq_getElem_cons hk, List.dropWhile_cons_of_pos hb]
structure DwRel (w : World) (l : List UInt8) (p : Nat) (wr : World) : Prop where
 ex : ∃ acc, Bld wr w.heap.size w.heap.size acc ∧ acc ++ wordsW (l.drop p) = wordsW l ∧ acc.length ≤ 4 * p
 bel : Below w.heap.size w wr
structure GpRel (w : World) (l : List UInt8) (p k : Nat) (wr : World) : Prop where
 ex : ∃ acc, Bld wr w.heap.size w.heap.size acc ∧ acc ++ wordsW (gapP (l.drop p)) = wordsW l ∧ acc.length ≤ 4 * p
 gap : (l.drop p).dropWhile blankB = (l.drop k).dropWhile blankB
 bel : Below w.heap.size w wr
theorem GpRel.next {w wr : World} {l : List UInt8} {p k : Nat} (h : GpRel w l p k wr) (hk : k < l.length) (hb : blankB (l[k]) = true) : GpRel w l p (k + 1) wr := ⟨h.ex, gap_go hk hb h.gap, h.bel⟩
theorem GpRel.some_ {w wr : World} {l : List UInt8} {p k : Nat} (h : GpRel w l p k wr) (hpk : p ≤ k) (hk : k < l.length) (hb : blankB (l[k]) = false) {q : List UInt8 × Nat} (he : encW (l.drop k) = some q) {w' : World} (hw : Below wr.heap.size wr w') : DwRel w l k w' := by
 obtain ⟨acc, h1, h2, h3⟩ := h.ex
 exact ⟨⟨acc, h1.below hw, by rw [gap_some hk hb h.gap he] at h2; exact h2, by omega⟩, h.bel.trans (hw.mono h.bel.size)⟩
theorem GpRel.none_ {w wr : World} {l : List UInt8} {p k : Nat} (h : GpRel w l p k wr) (hk : k < l.length) (hb : blankB (l[k]) = false) (he : encW (l.drop k) = none) {w' : World} (hw : Below wr.heap.size wr w') : DwRel w l p w' := by
 obtain ⟨acc, h1, h2, h3⟩ := h.ex
 exact ⟨⟨acc, h1.below hw, by rw [gap_none hk hb h.gap he] at h2; exact h2, h3⟩, h.bel.trans (hw.mono h.bel.size)⟩
theorem GpRel.end_ {w wr : World} {l : List UInt8} {p : Nat} (h : GpRel w l p l.length wr) : DwRel w l p wr := by
 obtain ⟨acc, h1, h2, h3⟩ := h.ex
 exact ⟨⟨acc, h1, by rw [gap_end h.gap] at h2; exact h2, h3⟩, h.bel⟩
set_option maxRecDepth 100000 in
set_option maxHeartbeats 4000000 in
theorem words_any (l : List UInt8) (w : World) (hl : l.length ≤ 100000000) (hT : Tabs w) :
  Calls Tryz.prog 49 #[.string (ba l)] w (StrB w (wordsP l)) := by
 have HB0 := Lib.hid (bld_new w)
 have HT := Lib.hid hT
 have HDR := Lib.hid (fun k => ba_drop l k)
 have HWO := Lib.hid (fun k W hW => encword_any (l.drop k) W (by rw [List.length_drop]; omega) hW)
 unfold WordPost at HWO
 clear hT
 obtain ⟨n, hn⟩ : ∃ n, l.length = n := ⟨_, rfl⟩
 have HL := Lib.hid hn
 obtain ⟨s, hs⟩ : ∃ s, ba l = s := ⟨_, rfl⟩
 have HS := Lib.hid hs
 have HZ := Lib.hid (show s.size = n by rw [← hs, ba_size, hn])
 have hsz : (s.size : Int) = n := by rw [HZ.out]
 rw [hs]
 rw [hn] at hl
 clear hs hn
 simp only [HS.out] at HDR
 go_enter Tryz.func49, Tryz.ntmps49
 go_wp2
 go_step3
 go_wp2
 go_step3
 go_wp2
 go_loopw [4, 5, 6, 7, 8, 9] (fun a b c d e f wr => ∃ (p : Nat) (y z u v x : Value), b = y ∧ c = z ∧ d = u ∧ e = v ∧ f = x ∧ p ≤ n ∧ a = .int .i64 (p : Int) ∧ Hid (DwRel w l p wr)) (fun a _ _ _ _ _ _ => n - (intOf a).toNat)
 case atStart => exact ⟨0, _, _, _, _, _, rfl, rfl, rfl, rfl, rfl, by omega, rfl, Lib.hid ⟨⟨[], HB0.out, by rw [List.drop_zero]; rfl, by simp⟩, (Below.refl _ _).alloc (Nat.le_refl _) _⟩⟩
 case round =>
  obtain ⟨p, y, z, u, v, x, rfl, rfl, rfl, rfl, rfl, hp, rfl, HR⟩ := hrel
  have hszr := HR.out.bel.size
  by_cases hlt : p < n
  ·have hk2 : (p : Int) < (n : Int) := by omega
   have hk0 : (0 : Int) ≤ (p : Int) := by omega
   have hks : p < s.size := by rw [HZ.out]; omega
   have hkl : p < l.length := by rw [HL.out]; omega
   have hget : s[p] = l[p] := by
    have h := HS.out
    subst h
    rfl
   have hx1 := HDR.out p
   have HX1 := Lib.hid hx1
   have HWP := Lib.hid (HWO.out p _ (HT.out.below HR.out.bel))
   have hcons := List.drop_eq_getElem_cons hkl
   have HNO := Lib.hid (fun (h : encW (l.drop p) = none) => by rw [hcons] at h; have := wordsW_none h; rw [← hcons] at this; exact this)
   have HSO := Lib.hid (fun t m (h : encW (l.drop p) = some (t, m)) => by rw [hcons] at h; have := wordsW_some h; rw [← hcons, List.drop_drop] at this; exact this)
   obtain ⟨acc, hbld, heq, hal⟩ := HR.out.ex
   have HBL := Lib.hid hbld
   have HEQ := Lib.hid heq
   have HAL := Lib.hid hal
   have HBE := Lib.hid HR.out.bel
   clear hbld heq hal hcons hx1 HR
   cases he : encW (l.drop p) with
   | none =>
    have HN1 := Lib.hid (HNO.out he)
    simp only [he, Option.getD_none] at HWP
    clear he HSO HNO
    obtain ⟨c, hc⟩ : ∃ c, l[p] = c := ⟨_, rfl⟩
    rw [hc] at hget HN1
    obtain ⟨X, hx⟩ : ∃ x : Int, (c.toNat : Int) = x := ⟨_, rfl⟩
    have hgi : ((s[p]).toNat : Int) = X := by rw [hget]; exact hx
    have HX := Lib.hid hx
    have hx0 : 0 ≤ X := by omega
    have hx1 : X ≤ 255 := by have := c.toNat_lt; omega
    clear hc hkl hget hx
    go_wp2_with fail
    rw [HX1.out]
    refine HWP.out.mono ?_
    rintro e w2 ⟨rfl, hb2⟩
    have HB2 := Lib.hid (HBE.out.trans (hb2.mono hszr))
    have HWB := Lib.hid (wb_int _ _ acc X c w2 HX.out (HBL.out.below hb2) (by have := HAL.out; omega) HB2.out.size)
    clear hb2
    go_wp2_with fail
    refine HWB.out.mono ?_
    rintro e w3 ⟨rfl, hW⟩
    have HN := Lib.hid (show DwRel w l (p + 1) w3 from ⟨⟨acc ++ [c], hW.bld, by rw [← HEQ.out, HN1.out]; simp, by have := HAL.out; simp; omega⟩, HB2.out.trans hW.bel⟩)
    clear hW
    go_wp2
    go_roundw
    case rel => exact ⟨p + 1, _, _, _, _, _, rfl, rfl, rfl, rfl, rfl, by omega, by go_num, HN⟩
    case measure => simp [intOf] <;> omega
   | some q =>
    obtain ⟨t, m⟩ := q
    have hm := encW_pos he
    rw [List.length_drop, HL.out] at hm
    have htl := encW_len he
    have HS1 := Lib.hid (HSO.out t m he)
    simp only [he, Option.getD_some] at HWP
    have hm0 : ((m : Int) == 0) = false := by rw [beq_eq_false_iff_ne]; omega
    have hmi : (m : Int) ≤ 1000000000 := by omega
    have hmz : (0 : Int) ≤ (m : Int) := by omega
    have HTL := Lib.hid htl
    have HMN := Lib.hid hm
    clear he HSO HNO htl hget hkl
    go_wp2_with fail
    rw [HX1.out]
    refine HWP.out.mono ?_
    rintro e w2 ⟨rfl, hb2⟩
    have HB2 := Lib.hid (HBE.out.trans (hb2.mono hszr))
    have HWS := Lib.hid (write_string _ _ acc t w2 (HBL.out.below hb2) (by have := HAL.out; have := HTL.out; omega) HB2.out.size)
    clear hb2
    go_wp2_with fail
    refine HWS.out.mono ?_
    rintro e w3 ⟨rfl, hW⟩
    have HN := Lib.hid (show GpRel w l (p + m) (p + m) w3 from ⟨⟨acc ++ t, hW.bld, by rw [List.append_assoc, ← HS1.out]; exact HEQ.out, by have := HAL.out; have := HTL.out; rw [List.length_append]; omega⟩, rfl, HB2.out.trans hW.bel⟩)
    clear hW
    have hpm : (p : Int) + (m : Int) ≤ 2000000000 := by omega
    have hszr3 : w.heap.size ≤ w3.heap.size := HN.out.bel.size
    obtain ⟨P, hP⟩ : ∃ P, p + m = P := ⟨_, rfl⟩
    have hPi : (p : Int) + (m : Int) = (P : Int) := by omega
    have hPn : P ≤ n := by omega
    have hPp : p < P := by omega
    rw [hP] at HN
    clear hP hszr hk2 hk0 hks HWP HX1 HS1 HEQ HAL HBL HBE HB2 HWS hmz hmi hm0 hm HTL HMN
    go_wp2
    go_loopw [4, 7, 8, 9] (fun q a b c wr => ∃ (k : Nat) (y z : Value), b = y ∧ c = z ∧ q = .int .i64 (P : Int) ∧ P ≤ k ∧ k ≤ n ∧ a = .int .i64 (k : Int) ∧ Hid (GpRel w l P k wr)) (fun _ a _ _ _ => n - (intOf a).toNat)
    case atStart => exact ⟨P, _, _, rfl, rfl, by go_num, Nat.le_refl _, hPn, by go_num, HN⟩
    case round =>
     obtain ⟨k, y, z, rfl, rfl, rfl, hPk, hk, rfl, HG⟩ := hrel
     have hszg := HG.out.bel.size
     by_cases hlk : k < n
     ·have hk2 : (k : Int) < (n : Int) := by omega
      have hk0 : (0 : Int) ≤ (k : Int) := by omega
      have hks : k < s.size := by rw [HZ.out]; omega
      have hkl : k < l.length := by rw [HL.out]; omega
      have hget : s[k] = l[k] := by
       have h := HS.out
       subst h
       rfl
      have hxk := HDR.out k
      have HXK := Lib.hid hxk
      have hki : (k : Int) ≤ ((s.size : Nat) : Int) := by rw [hsz]; omega
      have HWK := Lib.hid (HWO.out k wr (HT.out.below HG.out.bel))
      have HNX := Lib.hid (fun h => HG.out.next hkl h)
      have HSM := Lib.hid (fun (h1 : blankB (l[k]) = false) q (h2 : encW (l.drop k) = some q) w' (hw : Below wr.heap.size wr w') => HG.out.some_ hPk hkl h1 h2 hw)
      have HNE := Lib.hid (fun (h1 : blankB (l[k]) = false) (h2 : encW (l.drop k) = none) w' (hw : Below wr.heap.size wr w') => HG.out.none_ hkl h1 h2 hw)
      clear hxk
      obtain ⟨c, hc⟩ : ∃ c, l[k] = c := ⟨_, rfl⟩
      rw [hc] at hget HNX HSM HNE
      obtain ⟨X, hx⟩ : ∃ x : Int, (c.toNat : Int) = x := ⟨_, rfl⟩
      have hgi : ((s[k]).toNat : Int) = X := by rw [hget]; exact hx
      have HX := Lib.hid hx
      have hx0 : 0 ≤ X := by omega
      have hx1 : X ≤ 255 := by have := c.toNat_lt; omega
      clear hc hkl hget hx
      have HBK := Lib.hid (show Calls Tryz.prog 103 #[.int .u8 X] wr fun e w' => e = .returned (.bool (blankB c)) ∧ w' = wr by rw [← HX.out]; exact wblank_any c wr)
      cases hb : blankB c with
      | true =>
       rw [hb] at HBK
       have HN2 := Lib.hid (HNX.out hb)
       clear hb HNX HSM HNE HWK
       go_wp2_with fail
       refine HBK.out.mono ?_
       rintro e w4 ⟨rfl, hw⟩
       have hw2 := hw.symm
       subst hw2
       clear hw
       go_wp2
       go_roundw
       case rel => exact ⟨k + 1, _, _, rfl, rfl, rfl, by omega, by omega, by go_num, HN2⟩
       case measure => simp [intOf] <;> omega
      | false =>
       rw [hb] at HBK
       cases he : encW (l.drop k) with
       | none =>
        have HN2 := Lib.hid (HNE.out hb he)
        simp only [he, Option.getD_none] at HWK
        clear hb he HNX HSM HNE
        go_wp2_with fail
        refine HBK.out.mono ?_
        rintro e w4 ⟨rfl, hw⟩
        have hw2 := hw.symm
        subst hw2
        clear hw
        go_wp2_with fail
        rw [HXK.out]
        refine HWK.out.mono ?_
        rintro e w5 ⟨rfl, hb5⟩
        have HN3 := Lib.hid (HN2.out w5 hb5)
        clear hb5
        go_wp2
        go_roundw
        case rel => exact ⟨P, _, _, _, _, _, rfl, rfl, rfl, rfl, rfl, by omega, by go_num, HN3⟩
        case measure => simp [intOf] <;> omega
       | some q =>
        obtain ⟨t2, m2⟩ := q
        have HN2 := Lib.hid (HSM.out hb (t2, m2) he)
        have hm2 := encW_pos he
        simp only [he, Option.getD_some] at HWK
        have gm2 : decide ((0 : Int) < (m2 : Int)) = true := decide_eq_true (by omega)
        have gm3 : 0 < m2 := hm2.1
        clear hb he HNX HSM HNE hm2
        go_wp2_with fail
        refine HBK.out.mono ?_
        rintro e w4 ⟨rfl, hw⟩
        have hw2 := hw.symm
        subst hw2
        clear hw
        go_wp2_with fail
        rw [HXK.out]
        refine HWK.out.mono ?_
        rintro e w5 ⟨rfl, hb5⟩
        have HN3 := Lib.hid (HN2.out w5 hb5)
        clear hb5
        go_wp2
        go_roundw
        case rel => exact ⟨k, _, _, _, _, _, rfl, rfl, rfl, rfl, rfl, by omega, by go_num, HN3⟩
        case measure => simp [intOf] <;> omega
     ·obtain rfl : k = n := by omega
      have HN2 := Lib.hid (show DwRel w l P wr by have := HG.out; rw [← HL.out] at this; exact this.end_)
      go_wp2
      go_roundw
      case rel => exact ⟨P, _, _, _, _, _, rfl, rfl, rfl, rfl, rfl, by omega, by go_num, HN2⟩
      case measure => simp [intOf] <;> omega
  ·obtain rfl : p = n := by omega
   obtain ⟨acc, hbld, heq, hal⟩ := HR.out.ex
   have HBL := Lib.hid hbld
   have HBE := Lib.hid HR.out.bel
   have hac : acc = wordsW l := by rw [← heq, List.drop_of_length_le (by rw [HL.out]; exact Nat.le_refl _), wordsW_nil, List.append_nil]
   have HF := Lib.hid (show wordsP l = repairP acc by rw [hac]; rfl)
   have HRP := Lib.hid (fun W hW => repair_any acc W (by omega) hW)
   unfold StrB at HRP
   clear hbld heq hal hac HR
   go_wp2_with fail
   refine (bld_string _ _ _ wr HBL.out hszr).mono ?_
   rintro e w2 ⟨rfl, hW⟩
   have HB2 := Lib.hid (HBE.out.trans hW.bel)
   clear hW
   go_wp2_with fail
   refine (HRP.out _ (HT.out.below HB2.out)).mono ?_
   rintro e w3 ⟨rfl, hb3⟩
   have HB3 := Lib.hid (HB2.out.trans (hb3.mono HB2.out.size))
   clear hb3
   go_wp2
   go_ret
   exact str_fin (by rw [HF.out]) HB3.out
end Go.Proofs.YthidbmeaccpjdaaGreatDoor
end
section
namespace Go.Proofs.YthidbmeaccpjdaaGreatDoor
open Go.RowKit
set_option linter.unusedVariables false
theorem meantP_len (name s : List UInt8) : (meantP name s).length ≤ 4 * s.length := by
 unfold meantP
 split
 ·exact repair_len s
 ·exact decodeSet_len name s
theorem valueP_len {ones : List One1} (h : onesOk ones) (name : List UInt8) {v : List UInt8} (hv : valueP ones name = some v) : v.length ≤ 2570000000 := by
 unfold valueP at hv
 split at hv
 ·split at hv
  ·rename_i x hx
   injection hv with hv
   rw [← hv]
   have h1 := (h x (List.mem_of_find?_eq_some hx)).1
   have h2 := splitP_len x.value
   have h3 := openP_len _ (splitP x.value).2 (Nat.le_refl _)
   have h4 := meantP_len (splitP x.value).1 (openP (splitP x.value).2)
   omega
  ·obtain ⟨x, hx, rfl⟩ := Option.map_eq_some_iff.1 hv
   have h1 := (h x (first_mem hx)).1
   omega
 ·rename_i x hx
  have h1 := (h x (first_mem hx)).1
  have h2 := splitP_len x.value
  have h3 := openP_len _ (splitP x.value).2 (Nat.le_refl _)
  have h5 := restG_len h name 63 1
  split at hv
  ·injection hv with hv
   rw [← hv]
   have h4 := meantP_len (splitP x.value).1 (openP (splitP x.value).2 ++ restG ones name 63 1)
   rw [List.length_append] at h4
   omega
  ·injection hv with hv
   rw [← hv, List.length_append]
   omega
theorem rows_long {rs : List (List Tok)} (h : ∀ r ∈ rs, (joinP r).length ≤ 10000000) : (paramsP rs).length ≤ rs.length ∧ ∀ p ∈ paramsP rs, p.1.length ≤ 10000000 ∧ p.2.length ≤ 2570000000 := by
 have h2 := onesP_len rs
 constructor
 ·unfold paramsP
  refine Nat.le_trans (List.length_filterMap_le _ _) ?_
  have h1 := namesP_len (onesP rs) []
  simp only [List.length_nil] at h1
  unfold namesP
  omega
 ·intro p hp
  unfold paramsP at hp
  obtain ⟨n, hn, he⟩ := List.mem_filterMap.1 hp
  obtain ⟨v, hv, rfl⟩ := Option.map_eq_some_iff.1 he
  refine ⟨?_, valueP_len (onesP_ok h) n hv⟩
  rcases namesP_mem (onesP rs) [] n hn with h2 | ⟨o, ho, rfl⟩
  ·cases h2
  ·exact (onesP_ok h o ho).2
theorem typ_long {l : List UInt8} (hl : l.length ≤ 10000000) : (parseT l).1.params.length ≤ 10000000 ∧ ∀ p ∈ (parseT l).1.params, p.1.length ≤ 10000000 ∧ p.2.length ≤ 2570000000 := by
 have h := tokRows_ok l
 have h3 : ((tokRows l).drop 1).length ≤ l.length := by rw [List.length_drop]; have := h.2; omega
 have h1 := rows_long (rs := (tokRows l).drop 1) (fun r hr => Nat.le_trans (h.1 r (List.mem_of_mem_drop hr)).1 hl)
 unfold parseT
 split
 ·exact ⟨Nat.zero_le _, fun p hp => by cases hp⟩
 ·split
  ·exact ⟨by have := h1.1; show (paramsP _).length ≤ _; omega, h1.2⟩
  ·exact ⟨Nat.zero_le _, fun p hp => by cases hp⟩
end Go.Proofs.YthidbmeaccpjdaaGreatDoor
end
section
namespace Go.Proofs.YthidbmeaccpjdaaGreatDoor
open Go.RowKit
set_option linter.unusedVariables false
abbrev SliP := Option Addr × Nat × Nat
structure RawP where
 up : Int
 depth : Int
 start : Int
 body : Int
 stop : Int
 kind : List UInt8
 sub : List UInt8
 pars : SliP
 code : List UInt8
def rawP (p : Prt) (v : SliP) : RawP := ⟨p.up, p.depth, p.start, p.body, p.stop, p.typ.kind, p.typ.sub, v, p.code⟩
end Go.Proofs.YthidbmeaccpjdaaGreatDoor
end
section
namespace Go.Proofs.YthidbmeaccpjdaaGreatDoor
open Go.RowKit
set_option linter.unusedVariables false
theorem part_info : (Tryz.prog.info? 26).map (fun i => (i.zero, i.size, i.bytes)) = some (some (.agg #[.int .i64 0, .int .i64 0, .int .i64 0, .int .i64 0, .int .i64 0, .string ByteArray.empty, .string ByteArray.empty, .slice none 0 0, .string ByteArray.empty]), 9, 112) := by kernel_rfl
def partCells (t : RawP) : List Value := [.int .i64 (t.up), .int .i64 (t.depth), .int .i64 (t.start), .int .i64 (t.body), .int .i64 (t.stop), .string (ba (t.kind)), .string (ba (t.sub)), .slice (t.pars).1 (t.pars).2.1 (t.pars).2.2, .string (ba (t.code))]
def PartOk (t : RawP) : Prop := (-9223372036854775808 ≤ t.up ∧ t.up ≤ 9223372036854775807) ∧ (-9223372036854775808 ≤ t.depth ∧ t.depth ≤ 9223372036854775807) ∧ (-9223372036854775808 ≤ t.start ∧ t.start ≤ 9223372036854775807) ∧ (-9223372036854775808 ≤ t.body ∧ t.body ≤ 9223372036854775807) ∧ (-9223372036854775808 ≤ t.stop ∧ t.stop ≤ 9223372036854775807)
def Parts (w : World) (B : Nat) (A : Option Addr) (n : Nat) (ts : List (RawP)) : Prop :=
 n = ts.length ∧ ∀ k (hk : k < ts.length), ∃ ad, A = some ad ∧ (ad.add (k * 9)).block < B ∧ w.cell? (ad.add (k * 9)) = some (.int .i64 (ts[k].up)) ∧ w.cell? ⟨(ad.add (k * 9)).block, (ad.add (k * 9)).off + 1, none⟩ = some (.int .i64 (ts[k].depth)) ∧ w.cell? ⟨(ad.add (k * 9)).block, (ad.add (k * 9)).off + 2, none⟩ = some (.int .i64 (ts[k].start)) ∧ w.cell? ⟨(ad.add (k * 9)).block, (ad.add (k * 9)).off + 3, none⟩ = some (.int .i64 (ts[k].body)) ∧ w.cell? ⟨(ad.add (k * 9)).block, (ad.add (k * 9)).off + 4, none⟩ = some (.int .i64 (ts[k].stop)) ∧ w.cell? ⟨(ad.add (k * 9)).block, (ad.add (k * 9)).off + 5, none⟩ = some (.string (ba (ts[k].kind))) ∧ w.cell? ⟨(ad.add (k * 9)).block, (ad.add (k * 9)).off + 6, none⟩ = some (.string (ba (ts[k].sub))) ∧ w.cell? ⟨(ad.add (k * 9)).block, (ad.add (k * 9)).off + 7, none⟩ = some (.slice (ts[k].pars).1 (ts[k].pars).2.1 (ts[k].pars).2.2) ∧ w.cell? ⟨(ad.add (k * 9)).block, (ad.add (k * 9)).off + 8, none⟩ = some (.string (ba (ts[k].code))) ∧ PartOk ts[k]
section
variable {w w' : World} {B B' n : Nat} {A : Option Addr} {ts : List (RawP)}
theorem Parts.below (h : Parts w B A n ts) (hb : Below B w w') : Parts w' B A n ts := by
 refine ⟨h.1, fun k hk => ?_⟩
 obtain ⟨ad, e, h1, c0, c1, c2, c3, c4, c5, c6, c7, c8, h5⟩ := h.2 k hk
 exact ⟨ad, e, h1, (hb.cell h1).trans c0, (hb.cell (p := ⟨(ad.add (k * 9)).block, _, none⟩) h1).trans c1, (hb.cell (p := ⟨(ad.add (k * 9)).block, _, none⟩) h1).trans c2, (hb.cell (p := ⟨(ad.add (k * 9)).block, _, none⟩) h1).trans c3, (hb.cell (p := ⟨(ad.add (k * 9)).block, _, none⟩) h1).trans c4, (hb.cell (p := ⟨(ad.add (k * 9)).block, _, none⟩) h1).trans c5, (hb.cell (p := ⟨(ad.add (k * 9)).block, _, none⟩) h1).trans c6, (hb.cell (p := ⟨(ad.add (k * 9)).block, _, none⟩) h1).trans c7, (hb.cell (p := ⟨(ad.add (k * 9)).block, _, none⟩) h1).trans c8, h5⟩
theorem Parts.more (h : Parts w B A n ts) (hB : B ≤ B') : Parts w B' A n ts := by
 refine ⟨h.1, fun k hk => ?_⟩
 obtain ⟨ad, e, h1, h2⟩ := h.2 k hk
 exact ⟨ad, e, Nat.lt_of_lt_of_le h1 hB, h2⟩
theorem Parts.nil_ : Parts w B A 0 [] := ⟨rfl, fun k hk => by simp at hk⟩
theorem Parts.len (h : Parts w B A n ts) : ts.length = n := h.1.symm
theorem Parts.cutA (h : Parts w B A n ts) (k : Nat) (hk : k ≤ n) : Parts w B A k (ts.take k) := by
 refine ⟨by rw [List.length_take, h.len]; omega, fun j hj => ?_⟩
 rw [List.length_take] at hj
 have := h.2 j (by omega)
 rw [List.getElem_take]
 exact this
theorem Parts.cutB {ad : Addr} (h : Parts w B (some ad) n ts) (k : Nat) (hk : k ≤ n) : Parts w B (some (ad.add (k * 9))) (n - k) (ts.drop k) := by
 refine ⟨by rw [List.length_drop, h.len], fun j hj => ?_⟩
 rw [List.length_drop] at hj
 obtain ⟨ad', e, r⟩ := h.2 (k + j) (by omega)
 injection e with e
 subst e
 refine ⟨_, rfl, ?_⟩
 rw [add_add', show k * 9 + j * 9 = (k + j) * 9 by omega, List.getElem_drop]
 exact r
end
structure OwnParts (w : World) (B : Nat) (v : Value) (ts : List (RawP)) : Prop where
 row : w.ownsRow B 26 9 v ts.length (ts.flatMap partCells)
 each : ∀ t, t ∈ ts → PartOk t
theorem OwnParts.nil_ (w : World) (B : Nat) : OwnParts w B (.slice none 0 0) [] := ⟨World.ownsRow_nil _ _ _ _, fun t h => by cases h⟩
theorem OwnParts.below {w w' : World} {B : Nat} {v : Value} {ts : List (RawP)} (h : OwnParts w B v ts) (hb : Below w.heap.size w w') : OwnParts w' B v ts :=
 ⟨ownsRow_block h.row fun b e => hb.block b (h.row.lt b e).2, h.each⟩
theorem OwnParts.block {w w' : World} {B : Nat} {v : Value} {ts : List (RawP)} (h : OwnParts w B v ts) (hb : ∀ b, v.ownBlock = some b → w'.heap[b]? = w.heap[b]?) : OwnParts w' B v ts := ⟨ownsRow_block h.row hb, h.each⟩
theorem OwnParts.more {w : World} {B B' : Nat} {v : Value} {ts : List (RawP)} (h : OwnParts w B v ts) (hB : B' ≤ B) : OwnParts w B' v ts := by
 obtain ⟨⟨h0, h1⟩, h2⟩ := h
 refine ⟨⟨h0, ?_⟩, h2⟩
 rcases h1 with h1 | ⟨g, cap, cur, e, hb, r⟩
 ·exact .inl h1
 ·exact .inr ⟨g, cap, cur, e, by omega, r⟩
theorem part_len (ts : List (RawP)) : (ts.flatMap partCells).length = ts.length * 9 := by induction ts with | nil => rfl | cons a r ih => simp [partCells] at ih ⊢; omega
theorem part_get : ∀ (ts : List (RawP)) j (hj : j < ts.length) i (hi : i < 9), (ts.flatMap partCells)[j * 9 + i]? = (partCells ts[j])[i]? := fun ts => by
 induction ts with
 | nil => intro j hj; simp at hj
 | cons a r ih =>
  intro j hj i hi
  cases j with
  | zero =>
   simp only [List.flatMap_cons, List.getElem_cons_zero, Nat.zero_mul, Nat.zero_add]
   rw [List.getElem?_append_left (by simp [partCells]; omega)]
  | succ j =>
   have := ih j (by simpa using hj) i hi
   simp only [List.flatMap_cons, List.getElem_cons_succ]
   rw [List.getElem?_append_right (by simp [partCells]; omega), show (j + 1) * 9 + i - (partCells a).length = j * 9 + i by simp [partCells]; omega]
   exact this
theorem part_addS (a : Addr) {i : Nat} (hi : i ≠ 0) : a.add i = ⟨a.block, a.off + i, none⟩ := by unfold Addr.add; rw [if_neg hi]
theorem OwnParts.reads {w : World} {B : Nat} {v : Value} {ts : List (RawP)} (h : OwnParts w B v ts) : ∃ A c, v = .slice A ts.length c ∧ ts.length ≤ c ∧ c ≤ maxLen ∧ Parts w w.heap.size A ts.length ts := by
 have h0 := h.row
 rcases h0.2 with ⟨rfl, hn⟩ | ⟨g, cap, cur, rfl, hb, hg, q1, q2, q3⟩
 ·have : ts = [] := List.eq_nil_of_length_eq_zero hn
  subst this
  exact ⟨none, 0, rfl, Nat.le_refl _, by simp, Parts.nil_⟩
 ·refine ⟨_, cap, rfl, q1, q2, rfl, fun k hk => ?_⟩
  have hc : ∀ i u, i < 9 → (partCells ts[k])[i]? = some u → w.cell? ⟨g, k * 9 + i, none⟩ = some u := fun i u hi hu => by
   have := h0.cells (g := g) rfl (k * 9 + i) u (by rw [part_get ts k hk i hi]; exact hu)
   unfold Addr.add at this
   by_cases e0 : k * 9 + i = 0
   ·rw [if_pos e0] at this; rw [e0]; exact this
   ·rw [if_neg e0] at this; rw [Nat.zero_add] at this; exact this
  have e1 : (Addr.add ⟨g, 0, none⟩ (k * 9)) = ⟨g, k * 9, none⟩ := by
   unfold Addr.add
   split
   ·rename_i e0; rw [e0]
   ·rw [Nat.zero_add]
  refine ⟨⟨g, 0, none⟩, rfl, by rw [add_block]; exact heap_lt hg, ?_, ?_, ?_, ?_, ?_, ?_, ?_, ?_, ?_, h.each _ (List.getElem_mem hk)⟩
  ·rw [e1]; exact hc 0 _ (by omega) rfl
  ·rw [e1]; exact hc 1 _ (by omega) rfl
  ·rw [e1]; exact hc 2 _ (by omega) rfl
  ·rw [e1]; exact hc 3 _ (by omega) rfl
  ·rw [e1]; exact hc 4 _ (by omega) rfl
  ·rw [e1]; exact hc 5 _ (by omega) rfl
  ·rw [e1]; exact hc 6 _ (by omega) rfl
  ·rw [e1]; exact hc 7 _ (by omega) rfl
  ·rw [e1]; exact hc 8 _ (by omega) rfl
theorem OwnParts.unfrozen {w : World} {B n c : Nat} {ad : Addr} {ts : List (RawP)} (h : OwnParts w B (.slice (some ad) n c) ts) (i : Nat) : w.frozen? ⟨ad.block, i, none⟩ = false ∧ ad.block < w.heap.size := by
 rcases h.row.2 with ⟨e, _⟩ | ⟨g', cap, cur, e, _, hg, _⟩
 ·cases e
 ·injection e with e
  injection e with e
  subst e
  exact ⟨by simp [World.frozen?, hg], heap_lt hg⟩
theorem part_one (l : List (RawP)) : ∀ u ∈ l.flatMap partCells, u.oneCell' = true := by
 intro u hu
 obtain ⟨t, _, ht⟩ := List.mem_flatMap.1 hu
 simp only [partCells, List.mem_cons, List.not_mem_nil, or_false] at ht
 rcases ht with rfl | rfl | rfl | rfl | rfl | rfl | rfl | rfl | rfl <;> rfl
set_option maxRecDepth 100000 in
theorem run_pushPart {W : World} {B : Nat} {v : Value} {ts : List (RawP)} {x0 : Int} {x1 : Int} {x2 : Int} {x3 : Int} {x4 : Int} {x5 : List UInt8} {x6 : List UInt8} {x7 : SliP} {x8 : List UInt8} (hT : OwnParts W B v ts) (hB : B ≤ W.heap.size) (hf : PartOk (⟨x0, x1, x2, x3, x4, x5, x6, x7, x8⟩ : RawP)) (hlen : ts.length ≤ 1000000000) (c : Nat) (ty : TypeId) :
  ∃ v' w', (Builtin.append_ #[31, 31] ty #[v, .slice (some ⟨W.heap.size, 0, none⟩) 1 c]).run Tryz.prog (W.alloc (.cells #[.int .i64 x0, .int .i64 x1, .int .i64 x2, .int .i64 x3, .int .i64 x4, .string (ba x5), .string (ba x6), .slice x7.1 x7.2.1 x7.2.2, .string (ba x8)] 26)) = .ok v' w' ∧ OwnParts w' B v' (ts ++ [(⟨x0, x1, x2, x3, x4, x5, x6, x7, x8⟩ : RawP)]) ∧ W.grownBy w' v.ownBlock := by
 obtain ⟨i0, hi, hz0, hz1, hz2⟩ := info_parts part_info
 obtain ⟨v', w', hrun, h1, h2, _, h4⟩ := run_append_own_at (P := Tryz.prog) (W.alloc (.cells #[.int .i64 x0, .int .i64 x1, .int .i64 x2, .int .i64 x3, .int .i64 x4, .string (ba x5), .string (ba x6), .slice x7.1 x7.2.1 x7.2.2, .string (ba x8)] 26)) B 31 ty 26 i0 _ 9 112 Tryz.underlying31 hi hz0 hz1 hz2 rfl (by omega) v ts.length (ts.flatMap partCells) (World.ownsRow.alloc hT.row _) ⟨W.heap.size, 0, none⟩ 1 c (partCells (⟨x0, x1, x2, x3, x4, x5, x6, x7, x8⟩ : RawP)) rfl (World.news_of_block (MapKept.heap_alloc W _).1) (fun u hu => part_one [(⟨x0, x1, x2, x3, x4, x5, x6, x7, x8⟩ : RawP)] u (by simpa using hu)) (by simp only [maxLen]; omega) (by omega) (by simp; omega)
 have h5 := World.grownBy_alloc W (.cells #[.int .i64 x0, .int .i64 x1, .int .i64 x2, .int .i64 x3, .int .i64 x4, .string (ba x5), .string (ba x6), .slice x7.1 x7.2.1 x7.2.2, .string (ba x8)] 26) v.ownBlock
 refine ⟨v', w', hrun, ⟨by simpa using h1, fun t ht => ?_⟩, ⟨h2.os.trans h5.os, h2.tape.trans h5.tape, h2.output.trans h5.output, Nat.le_trans h5.size h2.size, fun k hk hne => (h2.block k (by simp; omega) hne).trans (h5.block k hk hne)⟩⟩
 rcases List.mem_append.1 ht with ht | ht
 ·exact hT.each t ht
 ·rw [List.mem_singleton] at ht; subst ht; exact hf
theorem wp_pushPart {o : Oper} {a : Act} {K : Act → World → Prop} {W : World} {Q : Exit → Act → World → Prop} {B : Nat} {v : Value} {ts : List (RawP)} {x0 : Int} {x1 : Int} {x2 : Int} {x3 : Int} {x4 : Int} {x5 : List UInt8} {x6 : List UInt8} {x7 : SliP} {x8 : List UInt8} (hT : OwnParts W B v ts) (hB : B ≤ W.heap.size) (hf : PartOk (⟨x0, x1, x2, x3, x4, x5, x6, x7, x8⟩ : RawP))
  (hlen : ts.length ≤ 1000000000) (s y : Operand) (c : Nat)
  (ho : o.op = .call { callee := .builtin .append, args := #[s, y], argTypes := #[31, 31] }) (hs : a.eval s = v) (hx : a.eval y = .slice (some ⟨W.heap.size, 0, none⟩) 1 c)
  (h : ∀ v' w', OwnParts w' B v' (ts ++ [(⟨x0, x1, x2, x3, x4, x5, x6, x7, x8⟩ : RawP)]) → W.grownBy w' v.ownBlock → K (a.put o.dst v') w') : o.wp Tryz.prog a (W.alloc (.cells #[.int .i64 x0, .int .i64 x1, .int .i64 x2, .int .i64 x3, .int .i64 x4, .string (ba x5), .string (ba x6), .slice x7.1 x7.2.1 x7.2.2, .string (ba x8)] 26)) K Q := by
 obtain ⟨v', w', hrun, h1, h2⟩ := run_pushPart hT hB hf hlen c o.type
 unfold Oper.wp execOp
 simp only [ho, resolve, invoke, builtin, Sem.run_bind, Sem.run_pure, Result.andThen_ok, List.map_toArray, List.map_cons, List.map_nil, hs, hx, hrun]
 exact h v' w' h1 h2
theorem step_pushPart {ops : Array Oper} {o : Oper} {a : Act} {W : World} {K : Act → World → Prop} {Q : Exit → Act → World → Prop} {E : Prop} {B : Nat} {v : Value} {ts : List (RawP)} {x0 : Int} {x1 : Int} {x2 : Int} {x3 : Int} {x4 : Int} {x5 : List UInt8} {x6 : List UInt8} {x7 : SliP} {x8 : List UInt8} (hT : OwnParts W B v ts) (hB : B ≤ W.heap.size) (hf : PartOk (⟨x0, x1, x2, x3, x4, x5, x6, x7, x8⟩ : RawP))
  (hlen : ts.length ≤ 1000000000) (hgd : o.guard = none) (s y : Operand) (c : Nat)
  (ho : o.op = .call { callee := .builtin .append, args := #[s, y], argTypes := #[31, 31] }) (hs : a.eval s = v) (hx : a.eval y = .slice (some ⟨W.heap.size, 0, none⟩) 1 c)
  (h : ∀ v' w', OwnParts w' B v' (ts ++ [(⟨x0, x1, x2, x3, x4, x5, x6, x7, x8⟩ : RawP)]) → W.grownBy w' v.ownBlock → K (a.put o.dst v') w') :
  if Region.wanted o (yielded ops a.tmps) = true then Oper.wp Tryz.prog o a (W.alloc (.cells #[.int .i64 x0, .int .i64 x1, .int .i64 x2, .int .i64 x3, .int .i64 x4, .string (ba x5), .string (ba x6), .slice x7.1 x7.2.1 x7.2.2, .string (ba x8)] 26)) K Q else E := by
 have hw : Region.wanted o (yielded ops a.tmps) = true := by simp [Region.wanted, hgd]
 rw [if_pos hw]
 exact wp_pushPart hT hB hf hlen s y c ho hs hx h
theorem wpList_pushPart {ops : Array Oper} {rest : List Oper} {o : Oper} {a : Act} {W : World} {Q : Exit → Act → World → Prop} {B : Nat} {v : Value} {ts : List (RawP)} {x0 : Int} {x1 : Int} {x2 : Int} {x3 : Int} {x4 : Int} {x5 : List UInt8} {x6 : List UInt8} {x7 : SliP} {x8 : List UInt8} (hT : OwnParts W B v ts) (hB : B ≤ W.heap.size) (hf : PartOk (⟨x0, x1, x2, x3, x4, x5, x6, x7, x8⟩ : RawP))
  (hlen : ts.length ≤ 1000000000) (hgd : o.guard = none) (s y : Operand) (c : Nat)
  (ho : o.op = .call { callee := .builtin .append, args := #[s, y], argTypes := #[31, 31] }) (hs : a.eval s = v) (hx : a.eval y = .slice (some ⟨W.heap.size, 0, none⟩) 1 c)
  (h : ∀ v' w', OwnParts w' B v' (ts ++ [(⟨x0, x1, x2, x3, x4, x5, x6, x7, x8⟩ : RawP)]) → W.grownBy w' v.ownBlock → wpList Tryz.prog ops Q rest (a.put o.dst v') w') :
  wpList Tryz.prog ops Q (o :: rest) a (W.alloc (.cells #[.int .i64 x0, .int .i64 x1, .int .i64 x2, .int .i64 x3, .int .i64 x4, .string (ba x5), .string (ba x6), .slice x7.1 x7.2.1 x7.2.2, .string (ba x8)] 26)) :=
 wpList_plain hgd fun _ hK => wp_pushPart hT hB hf hlen s y c ho hs hx fun v' w' h2 h3 => hK _ _ (h v' w' h2 h3)
theorem Parts.cells {w : World} {B m : Nat} {ad : Addr} {l : List (RawP)} (h : Parts w B (some ad) m l) : ∀ j u, (l.flatMap partCells)[j]? = some u → w.cell? (ad.add j) = some u := by
 intro j u hu
 have hj : j < l.length * 9 := by have := (List.getElem?_eq_some_iff.1 hu).1; rw [part_len] at this; exact this
 obtain ⟨k, i, hi, rfl⟩ : ∃ k i, i < 9 ∧ j = k * 9 + i := ⟨j / 9, j % 9, by omega, by omega⟩
 have hk : k < l.length := by omega
 rw [part_get l k hk i hi] at hu
 obtain ⟨ad', e, _, c0, c1, c2, c3, c4, c5, c6, c7, c8, _⟩ := h.2 k hk
 injection e with e
 subst e
 rw [← add_add']
 match i, hi with
 | 0, _ =>
  have hu' : Value.int .i64 (l[k].up) = u := Option.some.inj hu
  subst hu'
  have e0 : (ad.add (k * 9)).add 0 = ad.add (k * 9) := by unfold Addr.add; rfl
  rw [e0]; exact c0
 | 1, _ =>
  have hu' : Value.int .i64 (l[k].depth) = u := Option.some.inj hu
  subst hu'
  rw [part_addS _ (by decide)]; exact c1
 | 2, _ =>
  have hu' : Value.int .i64 (l[k].start) = u := Option.some.inj hu
  subst hu'
  rw [part_addS _ (by decide)]; exact c2
 | 3, _ =>
  have hu' : Value.int .i64 (l[k].body) = u := Option.some.inj hu
  subst hu'
  rw [part_addS _ (by decide)]; exact c3
 | 4, _ =>
  have hu' : Value.int .i64 (l[k].stop) = u := Option.some.inj hu
  subst hu'
  rw [part_addS _ (by decide)]; exact c4
 | 5, _ =>
  have hu' : Value.string (ba (l[k].kind)) = u := Option.some.inj hu
  subst hu'
  rw [part_addS _ (by decide)]; exact c5
 | 6, _ =>
  have hu' : Value.string (ba (l[k].sub)) = u := Option.some.inj hu
  subst hu'
  rw [part_addS _ (by decide)]; exact c6
 | 7, _ =>
  have hu' : Value.slice (l[k].pars).1 (l[k].pars).2.1 (l[k].pars).2.2 = u := Option.some.inj hu
  subst hu'
  rw [part_addS _ (by decide)]; exact c7
 | 8, _ =>
  have hu' : Value.string (ba (l[k].code)) = u := Option.some.inj hu
  subst hu'
  rw [part_addS _ (by decide)]; exact c8
set_option maxRecDepth 100000 in
theorem run_nonePart (w : World) (B : Nat) (t ty : TypeId) (ht : Tryz.prog.underlying t = some (.slice 26)) (v : Value) (acc : List (RawP)) (hown : OwnParts w B v acc) (c : Nat) : (Builtin.append_ #[t, t] ty #[v, .slice none 0 c]).run Tryz.prog w = .ok v w := by
 obtain ⟨i0, hi, hz0, hz1, hz2⟩ := info_parts part_info
 rcases hown.row.2 with ⟨rfl, _⟩ | ⟨g, cap, cur, rfl, _, _, hnc, _⟩
 ·simp [Builtin.append_, run_underlying ht, sizeOf, typeInfo, hi, Builtin.lenOf, Builtin.firstCells]
 ·simp [Builtin.append_, run_underlying ht, sizeOf, typeInfo, hi, Builtin.lenOf, Builtin.firstCells, hnc, storeCells]
set_option maxRecDepth 100000 in
theorem run_joinPart (w : World) (B : Nat) (t ty : TypeId) (ht : Tryz.prog.underlying t = some (.slice 26)) (v : Value) (acc : List (RawP)) (hown : OwnParts w B v acc) (hB : B ≤ w.heap.size)
  (D : Nat) (A : Option Addr) (m c : Nat) (l : List (RawP)) (hr : Parts w D A m l) (hlen : acc.length + m ≤ 1000000000) :
  ∃ v' w', (Builtin.append_ #[t, t] ty #[v, .slice A m c]).run Tryz.prog w = .ok v' w' ∧ OwnParts w' B v' (acc ++ l) ∧ w.grownBy w' v.ownBlock ∧ (v'.ownBlock = v.ownBlock ∨ ∃ k, v'.ownBlock = some k ∧ w.heap.size ≤ k) := by
 obtain ⟨i0, hi, hz0, hz1, hz2⟩ := info_parts part_info
 have hml := hr.len
 rcases A with _ | ad
 ·have hl : l = [] := by
   cases l with
   | nil => rfl
   | cons a r => obtain ⟨ad, e, _⟩ := hr.2 0 (by simp); cases e
  subst hl
  obtain rfl : m = 0 := hml.symm
  exact ⟨v, w, run_nonePart w B t ty ht v acc hown c, by simpa using hown, World.grownBy.refl w _, .inl rfl⟩
 ·obtain ⟨v', w', hrun, h2, h3, _, h5⟩ := run_append_own_at (P := Tryz.prog) w B t ty 26 i0 _ 9 112 ht hi hz0 hz1 hz2 rfl (by omega) v acc.length (acc.flatMap partCells) hown.row ad m c (l.flatMap partCells) (by rw [part_len, hml]) hr.cells (part_one l) (by simp only [maxLen]; omega) (by omega) hB
  refine ⟨v', w', hrun, ⟨?_, fun t ht => ?_⟩, h3, ?_⟩
  ·rw [List.flatMap_append, List.length_append, hml]; exact h2
  ·rcases List.mem_append.1 ht with ht | ht
   ·exact hown.each t ht
   ·obtain ⟨k, hk, rfl⟩ := List.getElem_of_mem ht
    obtain ⟨_, _, _, _, _, _, _, _, _, _, _, _, hb⟩ := hr.2 k hk
    exact hb
  ·rcases h5 with h | h
   ·exact .inl h
   ·exact .inr ⟨_, h, Nat.le_refl _⟩
theorem wpList_joinPart {ops : Array Oper} {rest : List Oper} {o : Oper} {a : Act} {w : World} {Q : Exit → Act → World → Prop} {B : Nat} {v : Value} {acc : List (RawP)} (hown : OwnParts w B v acc) (hB : B ≤ w.heap.size)
  {D : Nat} {A : Option Addr} {m : Nat} {l : List (RawP)} (hr : Parts w D A m l) (hlen : acc.length + m ≤ 1000000000) (hgd : o.guard = none) (s x : Operand) (t : TypeId) (c : Nat)
  (ho : o.op = .call { callee := .builtin .append, args := #[s, x], argTypes := #[t, t] }) (ht : Tryz.prog.underlying t = some (.slice 26)) (hs : a.eval s = v) (hx : a.eval x = .slice A m c)
  (h : ∀ v' w', OwnParts w' B v' (acc ++ l) → w.grownBy w' v.ownBlock → (v'.ownBlock = v.ownBlock ∨ ∃ k, v'.ownBlock = some k ∧ w.heap.size ≤ k) → wpList Tryz.prog ops Q rest (a.put o.dst v') w') : wpList Tryz.prog ops Q (o :: rest) a w := by
 refine wpList_plain hgd fun K hK => ?_
 obtain ⟨v', w', hrun, h2, h3, h4⟩ := run_joinPart w B t o.type ht v acc hown hB D A m c l hr hlen
 unfold Oper.wp execOp
 simp only [ho, resolve, invoke, builtin, Sem.run_bind, Sem.run_pure, Result.andThen_ok, List.map_toArray, List.map_cons, List.map_nil, hs, hx, hrun]
 exact hK _ _ (h v' w' h2 h3 h4)
end Go.Proofs.YthidbmeaccpjdaaGreatDoor
end
section
namespace Go.Proofs.YthidbmeaccpjdaaGreatDoor
open Go.RowKit
set_option linter.unusedVariables false
theorem bodF_ok (s b : List UInt8) : ∀ (ls : List (List UInt8)) (a : Nat) (o : Option Nat), a + ls.flatten.length ≤ s.length → (∀ x, o = some x → x ≤ a) → ∀ k ∈ bodF s b ls a o, k.1 ≤ k.2 ∧ k.2 ≤ s.length
 | [], a, none, _, _, k, hk => by cases hk
 | [], a, some o, h, ho, k, hk => by
  rw [show bodF s b [] a (some o) = [(o, s.length)] from rfl, List.mem_singleton] at hk
  subst hk
  have := ho o rfl
  simp at h
  exact ⟨by show o ≤ s.length; omega, Nat.le_refl _⟩
 | l :: r, a, o, h, ho, k, hk => by
  rw [List.flatten_cons, List.length_append] at h
  have ih1 := bodF_ok s b r (a + l.length) (some (a + l.length)) (by omega) (fun x hx => by injection hx with hx; omega) k
  have ih2 := bodF_ok s b r (a + l.length) o (by omega) (fun x hx => Nat.le_trans (ho x hx) (Nat.le_add_right _ _)) k
  unfold bodF at hk
  split at hk
  ·rcases List.mem_append.1 hk with hk | hk
   ·cases o with
    | none => cases hk
    | some x =>
     have hx := ho x rfl
     rw [List.mem_singleton] at hk
     subst hk
     unfold aheadP
     dsimp only
     split
     ·split <;> omega
     ·omega
   ·split at hk
    ·cases hk
    ·exact ih1 hk
  ·exact ih2 hk
theorem bodF_len (s b : List UInt8) : ∀ (ls : List (List UInt8)) (a : Nat) (o : Option Nat), (bodF s b ls a o).length ≤ ls.length + 1
 | [], _, none => Nat.zero_le _
 | [], _, some _ => Nat.le_refl _
 | l :: r, a, o => by
  have h1 := bodF_len s b r (a + l.length) (some (a + l.length))
  have h2 := bodF_len s b r (a + l.length) o
  unfold bodF
  cases o <;> cases (bndP l b).1 <;> cases (bndP l b).2 <;> simp <;> omega
theorem inner_len (s : List UInt8) (p : Prt) : (innerP s p).length ≤ s.length + 1 := by
 unfold innerP
 split
 ·exact Nat.zero_le _
 ·split
  ·split
   ·unfold bodiesP
    have h1 := bodF_len (s.take p.stop.toNat) ((paramT p.typ.params wBound).getD []) (linesP ((s.take p.stop.toNat).drop p.body.toNat)) p.body.toNat none
    have h2 := linesP_len ((s.take p.stop.toNat).drop p.body.toNat)
    rw [List.length_drop, List.length_take] at h2
    omega
   ·exact Nat.zero_le _
  ·split
   ·exact Nat.succ_le_succ (Nat.zero_le _)
   ·exact Nat.zero_le _
theorem inner_ok {s : List UInt8} {p : Prt} {b t : Nat} (h : PrtFit s p b t) : ∀ k ∈ innerP s p, k.1 ≤ k.2 ∧ k.2 ≤ s.length := by
 intro k hk
 unfold innerP at hk
 rw [h.hb, h.ht, Int.toNat_natCast, Int.toNat_natCast] at hk
 split at hk
 ·cases hk
 ·split at hk
  ·split at hk
   ·unfold bodiesP at hk
    have := bodF_ok (s.take t) _ _ b none (by rw [linesP_flat, List.length_drop, List.length_take]; have := h.le; have := h.ls; omega) (fun x hx => by cases hx) k hk
    rw [List.length_take] at this
    omega
   ·cases hk
  ·split at hk
   ·rw [List.mem_singleton] at hk
    subst hk
    exact ⟨h.le, h.ls⟩
   ·cases hk
theorem read_fit {s : List UInt8} (hs : s.length ≤ 10000000) (up depth : Int) {i j : Nat} (hij : i ≤ j) (hj : j ≤ s.length) (digest : Bool) : PrtFit s (readPt s up depth i j digest) (i + (headP ((s.take j).drop i)).2) j := by
 obtain ⟨l, hl⟩ : ∃ l, (s.take j).drop i = l := ⟨_, rfl⟩
 have hll : l.length = j - i := by rw [← hl, List.length_drop, List.length_take]; omega
 have hok := headP_ok l
 have hv : ((getP (headP l).1 ctName).getD []).length ≤ 10000000 := getD_len fun v hv => getP_len (fun x hx => Nat.le_trans (hok.1 x hx).2 (by omega)) hv
 have ht := typ_long hv
 have hk : (kindP14 (headP l).1 digest).params.length ≤ 10000000 ∧ ∀ q ∈ (kindP14 (headP l).1 digest).params, q.1.length ≤ 10000000 ∧ q.2.length ≤ 2570000000 := by
  unfold kindP14
  split
  ·exact ht
  ·exact ⟨Nat.zero_le _, fun q hq => by cases hq⟩
 unfold readPt
 rw [hl]
 refine ⟨rfl, rfl, by have := hok.2.2; omega, hj, Nat.le_trans hk.1 (by omega), fun q hq => Nat.le_trans (hk.2 q hq).1 (by omega), fun q hq => (hk.2 q hq).2⟩
def openL (s : List UInt8) (f : Nat) (up d : Int) (dg : Bool) (l : List (Nat × Nat)) (st : List Prt × Nat) : List Prt × Nat := l.foldl (fun t k => openM s f t (readPt s up d k.1 k.2 dg)) st
theorem openM_succ (s : List UInt8) (f : Nat) (st : List Prt × Nat) (p : Prt) : openM s (f + 1) st p = if 64 < st.2 + (innerP s p).length then (st.1 ++ [p], st.2) else openL s f st.1.length (p.depth + 1) (digestB p) (innerP s p) (st.1 ++ [p], st.2 + (innerP s p).length) := rfl
theorem inner_deep {s : List UInt8} {p : Prt} (h : 8 ≤ p.depth) : innerP s p = [] := by unfold innerP; rw [if_pos h]
theorem openM_left (s : List UInt8) : ∀ (f : Nat) (st : List Prt × Nat) (p : Prt), p.depth + f = 8 → st.1.length + 1 ≤ st.2 → st.2 ≤ 64 → (openM s (f + 1) st p).2 + st.1.length + 1 = st.2 + (openM s (f + 1) st p).1.length ∧ (openM s (f + 1) st p).2 ≤ 64 ∧ (openM s (f + 1) st p).1.length ≤ (openM s (f + 1) st p).2
 | 0, st, p, hd, h1, h2 => by
  rw [openM_succ, inner_deep (by omega)]
  rw [if_neg (by simp; omega)]
  simp [openL]
  omega
 | f + 1, st, p, hd, h1, h2 => by
  rw [openM_succ]
  split
  ·simp
   omega
  ·rename_i hn
   have key : ∀ (l : List (Nat × Nat)) (t : List Prt × Nat), t.1.length + l.length ≤ t.2 → t.2 ≤ 64 → (openL s (f + 1) st.1.length (p.depth + 1) (digestB p) l t).2 + t.1.length + l.length = t.2 + (openL s (f + 1) st.1.length (p.depth + 1) (digestB p) l t).1.length ∧ (openL s (f + 1) st.1.length (p.depth + 1) (digestB p) l t).2 ≤ 64 ∧ (openL s (f + 1) st.1.length (p.depth + 1) (digestB p) l t).1.length ≤ (openL s (f + 1) st.1.length (p.depth + 1) (digestB p) l t).2 := by
    intro l
    induction l with
    | nil => intro t ht h64; simp [openL]; simp at ht; omega
    | cons k r ih =>
     intro t ht h64
     rw [List.length_cons] at ht
     have h3 := openM_left s f t (readPt s st.1.length (p.depth + 1) k.1 k.2 (digestB p)) (by show p.depth + 1 + (f : Int) = 8; omega) (by omega) h64
     obtain ⟨T, hT⟩ : ∃ T, openM s (f + 1) t (readPt s st.1.length (p.depth + 1) k.1 k.2 (digestB p)) = T := ⟨_, rfl⟩
     rw [hT] at h3
     have h4 := ih T (by omega) h3.2.1
     have e : openL s (f + 1) st.1.length (p.depth + 1) (digestB p) (k :: r) t = openL s (f + 1) st.1.length (p.depth + 1) (digestB p) r T := by unfold openL; rw [List.foldl_cons, hT]
     rw [e, List.length_cons]
     omega
   have h5 := key (innerP s p) (st.1 ++ [p], st.2 + (innerP s p).length) (by simp; omega) (by show st.2 + _ ≤ 64; omega)
   simp only [List.length_append, List.length_singleton] at h5
   omega
end Go.Proofs.YthidbmeaccpjdaaGreatDoor
end
