/- Layer 15: the contract of Strip. Layer 12: the contracts of Disposition and Param. Layer 15, plain: what Strip leaves of a text with one element. -/
import Derived.Test.YthidbmeaccpjdaaGreatDoorM27
import Derived.Test.YthidbmeaccpjdaaGreatDoorM22
import Derived.Test.YthidbmeaccpjdaaGreatDoorM26
import Derived.Test.YthidbmeaccpjdaaGreatDoorM17
namespace Go.Proofs.YthidbmeaccpjdaaGreatDoor
open Go.RowKit
set_option linter.unusedVariables false
set_option maxHeartbeats 4000000
theorem behind_less {m : List UInt8} (hm : m ≠ []) (c : UInt8) (t : List UInt8) : (behindP m (c :: t)).length ≤ t.length := by
 unfold behindP Lib.cut
 split
 ·show ((c :: t).drop _).length ≤ _
  have : 0 < m.length := List.length_pos_iff.2 hm
  rw [List.length_drop, List.length_cons]
  omega
 ·exact Nat.zero_le _
theorem tag_rest (c : UInt8) (t : List UInt8) : (tagP (c :: t)).2.length ≤ t.length ∧ (tagP (c :: t)).1.length ≤ 1 := by
 unfold tagP
 have hb := behind_less (m := [62]) (by simp) c t
 have key : ∀ n : List UInt8, (if n ∈ breakNames then [10] else [] : List UInt8).length ≤ 1 := fun n => by split <;> simp
 split
 ·refine ⟨?_, by simp⟩
  have := behind_len [45, 45, 62] ((c :: t).drop 4)
  rw [List.length_drop, List.length_cons] at this
  show (behindP _ _).length ≤ _
  omega
 ·dsimp only
  split
  ·exact ⟨hb, key _⟩
  ·split
   ·exact ⟨Nat.zero_le _, key _⟩
   ·refine ⟨?_, key _⟩
    show (List.drop _ _).length ≤ _
    rw [List.length_drop]
    omega
theorem ent_rest {c : UInt8} {t a b : List UInt8} (h : entP (c :: t) = some (a, b)) : b.length ≤ t.length ∧ a.length ≤ 4 := by
 unfold entP at h
 simp only [List.drop_succ_cons, List.drop_zero] at h
 cases hc : cutP 59 t with
 | none => rw [hc] at h; cases h
 | some q =>
  rw [hc] at h
  dsimp only at h
  obtain ⟨v, hv, h2⟩ := Option.map_eq_some_iff.1 h
  injection h2 with h3 h4
  have h1 := congrArg List.length (cutP_some (a := q.1) (b := q.2) hc).1
  rw [List.length_append, List.length_cons] at h1
  refine ⟨by rw [← h4]; omega, ?_⟩
  rw [← h3]
  unfold entV at hv
  have hr : ∀ n, (runeC n).length ≤ 4 := fun n => by unfold runeC; split <;> exact enc_len _
  split at hv
  ·injection hv with hv
   rw [← hv]
   exact enc_len _
  ·split at hv
   ·split at hv
    ·split at hv
     ·split at hv
      ·obtain ⟨n, _, rfl⟩ := Option.map_eq_some_iff.1 hv
       exact hr n
      ·obtain ⟨n, _, rfl⟩ := Option.map_eq_some_iff.1 hv
       exact hr n
     ·cases hv
    ·cases hv
   ·cases hv
theorem stripF_fuel : ∀ (f g : Nat) (l : List UInt8), l.length ≤ f → l.length ≤ g → stripF f l = stripF g l
 | 0, g, l, hf, _ => by
  have : l = [] := List.eq_nil_of_length_eq_zero (by omega)
  subst this
  cases g <;> rfl
 | f + 1, 0, l, _, hg => by
  have : l = [] := List.eq_nil_of_length_eq_zero (by omega)
  subst this
  rfl
 | f + 1, g + 1, [], _, _ => rfl
 | f + 1, g + 1, c :: r, hf, hg => by
  rw [List.length_cons] at hf hg
  have h1 := tag_rest c r
  unfold stripF
  rw [stripF_fuel f g (tagP (c :: r)).2 (by omega) (by omega), stripF_fuel f g r (by omega) (by omega)]
  cases he : entP (c :: r) with
  | none => rfl
  | some q =>
   have h2 := ent_rest (a := q.1) (b := q.2) he
   dsimp only
   rw [stripF_fuel f g q.2 (by omega) (by omega)]
theorem stripP_nil : stripP [] = [] := rfl
theorem stripP_tag {c : UInt8} {r : List UInt8} (h : tagsB (c :: r) = true) : stripP (c :: r) = (tagP (c :: r)).1 ++ stripP (tagP (c :: r)).2 := by
 have h1 := (tag_rest c r).1
 unfold stripP
 rw [List.length_cons]
 conv => lhs; unfold stripF
 rw [if_pos h, stripF_fuel r.length (tagP (c :: r)).2.length _ (by omega) (Nat.le_refl _)]
theorem stripP_ent {c : UInt8} {r a b : List UInt8} (h : tagsB (c :: r) = false) (hc : c = 38) (he : entP (c :: r) = some (a, b)) : stripP (c :: r) = a ++ stripP b := by
 have h1 := (ent_rest he).1
 unfold stripP
 rw [List.length_cons]
 conv => lhs; unfold stripF
 rw [if_neg (by rw [h]; decide), if_pos hc, he]
 dsimp only
 rw [stripF_fuel r.length b.length _ (by omega) (Nat.le_refl _)]
theorem stripP_byte {c : UInt8} {r : List UInt8} (h : tagsB (c :: r) = false) (hc : c = 38 → entP (c :: r) = none) : stripP (c :: r) = c :: stripP r := by
 unfold stripP
 rw [List.length_cons]
 conv => lhs; unfold stripF
 rw [if_neg (by rw [h]; decide)]
 by_cases e : c = 38
 ·rw [if_pos e, hc e]
 ·rw [if_neg e]
structure StRel (w : World) (l r : List UInt8) (wr : World) : Prop where
 ex : ∃ acc, Bld wr w.heap.size w.heap.size acc ∧ acc ++ stripP r = stripP l ∧ acc.length + 4 * r.length ≤ 4 * l.length
 bel : Below w.heap.size w wr
set_option maxRecDepth 100000 in
theorem strip_any (l : List UInt8) (w : World) (hl : l.length ≤ 100000000) (hT : Tabs w) (hE : EntM w) :
  Calls Tryz.prog 21 #[.string (ba l)] w (StrB w (stripP l)) := by
 have HB0 := Lib.hid (bld_new w)
 have HL := Lib.hid hl
 have HT := Lib.hid hT
 have HE := Lib.hid hE
 obtain ⟨L, hL⟩ : ∃ L, l = L := ⟨_, rfl⟩
 have HREL := Lib.hid (show ∀ wr, wr = w.alloc (.cells #[.pointer none, .slice none 0 0] 64) → StRel w l l wr from by
  rintro wr rfl
  exact ⟨⟨[], HB0.out, rfl, by simp⟩, (Below.refl _ _).alloc (Nat.le_refl _) _⟩)
 clear hl hT hE
 rw [hL]
 rw [hL] at HREL HL
 clear hL HB0
 go_enter Tryz.func21, Tryz.ntmps21
 go_wp2
 go_loopw [0, 4, 5, 6, 7, 8] (fun s a b c d e wr => ∃ (r : List UInt8) (y z u v x : Value), a = y ∧ b = z ∧ c = u ∧ d = v ∧ e = x ∧ s = .string (ba r) ∧ Hid (StRel w L r wr)) (fun s _ _ _ _ _ _ => Lib.strSize s)
 case atStart => exact ⟨L, _, _, _, _, _, rfl, rfl, rfl, rfl, rfl, rfl, Lib.hid (HREL.out _ rfl)⟩
 case round =>
  obtain ⟨r, y, z, u, v, x, rfl, rfl, rfl, rfl, rfl, rfl, HR⟩ := hrel
  obtain ⟨acc, hbld, heq, hal⟩ := HR.out.ex
  have HBL := Lib.hid hbld
  have HEQ := Lib.hid heq
  have HBE := Lib.hid HR.out.bel
  have hszr := HR.out.bel.size
  have HAL := Lib.hid hal
  have HTR := Lib.hid (HT.out.below HBE.out)
  have HER := Lib.hid (HE.out.below HBE.out)
  clear hbld heq hal HR
  cases r with
  | nil =>
   have g1 : (ba ([] : List UInt8)).toList.isEmpty = true := by rw [ba_toList]; rfl
   have HF := Lib.hid (show acc = stripP L by rw [← HEQ.out, stripP_nil, List.append_nil])
   go_wp2_with fail
   refine (bld_string _ _ _ wr HBL.out hszr).mono ?_
   rintro e w2 ⟨rfl, hW⟩
   have HW := Lib.hid hW
   clear hW
   go_wp2
   go_ret
   exact str_fin (by rw [HF.out]) (HBE.out.trans HW.out.bel)
  | cons c r =>
   have g1 : (ba (c :: r)).toList.isEmpty = false := by rw [ba_toList]; rfl
   have HRL := Lib.hid (show r.length + 1 ≤ 100000000 by have := HAL.out; have := HL.out; rw [List.length_cons] at *; omega)
   have HTA := Lib.hid (tags_any (c :: r) wr (by rw [List.length_cons]; have := HRL.out; omega))
   have hx1 : (ba (c :: r)).extract 1 (ba (c :: r)).size = ba r := ba_drop _ _
   have h1i : (1 : Int) ≤ ((ba (c :: r)).size : Int) := by rw [ba_size]; simp; omega
   have HZ0 := Lib.hid (show (ba (c :: r)).size = r.length + 1 by rw [ba_size]; rfl)
   have HZR := Lib.hid (show (ba r).size = r.length by rw [ba_size])
   obtain ⟨X, hX⟩ : ∃ X : Int, (c.toNat : Int) = X := ⟨_, rfl⟩
   have HX := Lib.hid hX
   have hgi : ∃ h : 0 < (ba (c :: r)).size, (((ba (c :: r))[0]'h).toNat : Int) = X := ⟨by rw [ba_size]; simp, hX⟩
   cases htg : tagsB (c :: r) with
   | true =>
    rw [htg] at HTA
    have HS1 := Lib.hid (stripP_tag htg)
    have HTG := Lib.hid (tag_any c r wr (by rw [List.length_cons]; exact HRL.out) HTR.out)
    unfold TgPost at HTG
    have htr := tag_rest c r
    obtain ⟨⟨a, b⟩, hq⟩ : ∃ q, tagP (c :: r) = q := ⟨_, rfl⟩
    rw [hq] at HS1 HTG htr
    dsimp only at HS1 HTG htr
    have HTL := Lib.hid htr
    have HZB := Lib.hid (show (ba b).size = b.length by rw [ba_size])
    obtain ⟨s, hs⟩ : ∃ s, ba (c :: r) = s := ⟨_, rfl⟩
    rw [hs] at g1 HTA HTG HZ0
    rw [hs]
    clear htg hq htr hs hx1 h1i hgi hX
    go_wp2_with fail
    refine HTA.out.mono ?_
    rintro e w2 ⟨rfl, hw⟩
    have hw2 := hw.symm
    subst hw2
    clear hw
    go_wp2_with fail
    refine HTG.out.mono ?_
    rintro e w3 ⟨rfl, hb3⟩
    have HB3 := Lib.hid (HBE.out.trans (hb3.mono hszr))
    have HWS := Lib.hid (write_string _ _ acc a w3 (HBL.out.below hb3) (by have := HAL.out; have := HL.out; have := HTL.out.2; omega) HB3.out.size)
    clear hb3
    go_wp2_with fail
    refine HWS.out.mono ?_
    rintro e w4 ⟨rfl, hW⟩
    have HN := Lib.hid (show StRel w L b w4 from ⟨⟨acc ++ a, hW.bld, by rw [List.append_assoc, ← HS1.out]; exact HEQ.out, by have := HAL.out; have := HTL.out; rw [List.length_append]; rw [List.length_cons] at *; omega⟩, HB3.out.trans hW.bel⟩)
    clear hW
    go_wp2
    go_roundw
    case rel => exact ⟨b, _, _, _, _, _, rfl, rfl, rfl, rfl, rfl, rfl, HN⟩
    case measure => rw [Lib.strSize_string, Lib.strSize_string, HZ0.out, HZB.out]; have := HTL.out.1; omega
   | false =>
    rw [htg] at HTA
    by_cases h38 : X = 38
    ·have k38 : (X == 38) = true := by rw [h38]; rfl
     have hc : c = 38 := UInt8.toNat_inj.1 (by have : (38 : UInt8).toNat = 38 := rfl; omega)
     have HEN := Lib.hid (entity_any c r wr (by have := HRL.out; omega) HTR.out HER.out)
     unfold EnPost at HEN
     cases hen : entP (c :: r) with
     | some q =>
      obtain ⟨a, b⟩ := q
      have HS1 := Lib.hid (stripP_ent htg hc hen)
      have HTL := Lib.hid (ent_rest hen)
      rw [hen] at HEN
      simp only [Option.getD_some, Option.isSome_some] at HEN
      have HZB := Lib.hid (show (ba b).size = b.length by rw [ba_size])
      obtain ⟨s, hs⟩ : ∃ s, ba (c :: r) = s := ⟨_, rfl⟩
      rw [hs] at g1 HTA HEN HZ0 hgi
      rw [hs]
      clear htg hen hs hx1 h1i hX hc h38
      obtain ⟨hz0, hgj⟩ := hgi
      go_wp2_with fail
      refine HTA.out.mono ?_
      rintro e w2 ⟨rfl, hw⟩
      have hw2 := hw.symm
      subst hw2
      clear hw
      go_wp2_with fail
      refine HEN.out.mono ?_
      rintro e w3 ⟨rfl, hb3⟩
      have HB3 := Lib.hid (HBE.out.trans (hb3.mono hszr))
      have HWS := Lib.hid (write_string _ _ acc a w3 (HBL.out.below hb3) (by have := HAL.out; have := HL.out; have := HTL.out.2; omega) HB3.out.size)
      clear hb3
      go_wp2_with fail
      refine HWS.out.mono ?_
      rintro e w4 ⟨rfl, hW⟩
      have HN := Lib.hid (show StRel w L b w4 from ⟨⟨acc ++ a, hW.bld, by rw [List.append_assoc, ← HS1.out]; exact HEQ.out, by have := HAL.out; have := HTL.out; rw [List.length_append]; rw [List.length_cons] at *; omega⟩, HB3.out.trans hW.bel⟩)
      clear hW
      go_wp2
      go_roundw
      case rel => exact ⟨b, _, _, _, _, _, rfl, rfl, rfl, rfl, rfl, rfl, HN⟩
      case measure => rw [Lib.strSize_string, Lib.strSize_string, HZ0.out, HZB.out]; have := HTL.out.1; omega
     | none =>
      have HS1 := Lib.hid (stripP_byte htg fun _ => hen)
      rw [hen] at HEN
      simp only [Option.getD_none, Option.isSome_none] at HEN
      obtain ⟨s, hs⟩ : ∃ s, ba (c :: r) = s := ⟨_, rfl⟩
      rw [hs] at g1 HTA HEN HZ0 hgi hx1 h1i
      rw [hs]
      clear htg hen hs hX hc h38
      obtain ⟨hz0, hgj⟩ := hgi
      go_wp2_with fail
      refine HTA.out.mono ?_
      rintro e w2 ⟨rfl, hw⟩
      have hw2 := hw.symm
      subst hw2
      clear hw
      go_wp2_with fail
      refine HEN.out.mono ?_
      rintro e w3 ⟨rfl, hb3⟩
      have HB3 := Lib.hid (HBE.out.trans (hb3.mono hszr))
      have HWB := Lib.hid (wb_int _ _ acc X c w3 HX.out (HBL.out.below hb3) (by have := HAL.out; have := HL.out; omega) HB3.out.size)
      clear hb3
      go_wp2_with fail
      refine HWB.out.mono ?_
      rintro e w4 ⟨rfl, hW⟩
      have HN := Lib.hid (show StRel w L r w4 from ⟨⟨acc ++ [c], hW.bld, by rw [← HEQ.out, HS1.out]; simp, by have := HAL.out; rw [List.length_append]; simp at this ⊢; omega⟩, HB3.out.trans hW.bel⟩)
      clear hW
      go_wp2
      go_roundw
      case rel => exact ⟨r, _, _, _, _, _, rfl, rfl, rfl, rfl, rfl, rfl, HN⟩
      case measure => rw [Lib.strSize_string, Lib.strSize_string, HZ0.out, HZR.out]; omega
    ·have k38 : (X == 38) = false := by simpa using h38
     have HS1 := Lib.hid (stripP_byte htg fun h => absurd (show X = 38 by rw [← hX, h]; rfl) h38)
     obtain ⟨s, hs⟩ : ∃ s, ba (c :: r) = s := ⟨_, rfl⟩
     rw [hs] at g1 HTA HZ0 hgi hx1 h1i
     rw [hs]
     clear htg hs hX h38
     obtain ⟨hz0, hgj⟩ := hgi
     have HWB := Lib.hid (wb_int _ _ acc X c wr HX.out HBL.out (by have := HAL.out; have := HL.out; omega) hszr)
     go_wp2_with fail
     refine HTA.out.mono ?_
     rintro e w2 ⟨rfl, hw⟩
     have hw2 := hw.symm
     subst hw2
     clear hw
     go_wp2_with fail
     refine HWB.out.mono ?_
     rintro e w4 ⟨rfl, hW⟩
     have HN := Lib.hid (show StRel w L r w4 from ⟨⟨acc ++ [c], hW.bld, by rw [← HEQ.out, HS1.out]; simp, by have := HAL.out; rw [List.length_append]; simp at this ⊢; omega⟩, HBE.out.trans hW.bel⟩)
     clear hW
     go_wp2
     go_roundw
     case rel => exact ⟨r, _, _, _, _, _, rfl, rfl, rfl, rfl, rfl, rfl, HN⟩
     case measure => rw [Lib.strSize_string, Lib.strSize_string, HZ0.out, HZR.out]; omega
theorem frontP_le (l : List UInt8) : (frontP l).2 ≤ l.length := by
 cases l with
 | nil => exact Nat.le_refl _
 | cons c r => exact (frontP_len (by simp)).2
theorem joinP_cons (t : Tok) (l : List Tok) : (joinP (t :: l)).length = t.text.length + (joinP l).length := by unfold joinP; rw [List.flatMap_cons, List.length_append]
theorem scanF_join : ∀ (f : Nat) (l : List UInt8), (joinP (scanF f l)).length ≤ l.length
 | 0, l => by simp [scanF, joinP]
 | f + 1, l => by
  unfold scanF
  split
  ·simp [joinP]
  ·have h1 := scanF_join f (l.drop (frontP l).2)
   have h2 := frontP_le l
   rw [joinP_cons]
   show (l.take (frontP l).2).length + _ ≤ _
   rw [List.length_take]
   rw [List.length_drop] at h1
   omega
theorem bareP_join (ts : List Tok) : (joinP (bareP ts)).length ≤ (joinP ts).length := by
 unfold bareP
 induction ts with
 | nil => exact Nat.le_refl _
 | cons t r ih =>
  rw [List.filter_cons]
  split
  ·rw [joinP_cons, joinP_cons]; omega
  ·rw [joinP_cons]; omega
theorem rowsP_join : ∀ (l : List Tok) (r : List Tok), r ∈ rowsP l → (joinP r).length ≤ (joinP l).length
 | [], r, h => by
  have : r = [] := by simpa [rowsP] using h
  subst this
  exact Nat.le_refl _
 | t :: l, r, h => by
  unfold rowsP at h
  rw [joinP_cons]
  split at h
  ·rcases List.mem_cons.1 h with rfl | h
   ·simp [joinP]
   ·have := rowsP_join l r h
    omega
  ·split at h
   ·rename_i hr
    exact absurd hr (rowsP_ne l)
   ·rename_i a b hr
    rcases List.mem_cons.1 h with rfl | h
    ·have := rowsP_join l a (by rw [hr]; exact List.mem_cons_self ..)
     rw [joinP_cons]; omega
    ·have := rowsP_join l r (by rw [hr]; exact List.mem_cons_of_mem _ h)
     omega
theorem tokRows_ok (l : List UInt8) : (∀ r ∈ tokRows l, (joinP r).length ≤ l.length ∧ r.length ≤ l.length) ∧ (tokRows l).length ≤ l.length + 1 := by
 have h1 := scanP_len l
 have h2 := bareP_len (scanP l)
 have h3 : (joinP (scanP l)).length ≤ l.length := scanF_join _ l
 have h4 := bareP_join (scanP l)
 refine ⟨fun r hr => ?_, ?_⟩
 ·have h5 := rowsP_join _ r hr
  have h6 := rowsP_row _ r hr
  omega
 ·have := rowsP_len (bareP (scanP l))
  show (rowsP (bareP (scanP l))).length ≤ _
  omega
theorem rows_first (l : List UInt8) : ∃ r rs, tokRows l = r :: rs := by
 cases h : tokRows l with
 | nil => exact absurd h (rowsP_ne _)
 | cons r rs => exact ⟨r, rs, rfl⟩
theorem RowsIn.first {w : World} {B n : Nat} {A : Option Addr} {r : List Tok} {rs : List (List Tok)} (h : RowsIn w B A n (r :: rs)) : ∃ ad A' c', A = some ad ∧ ad.block < B ∧ w.cell? ad = some (.slice A' r.length c') ∧ r.length ≤ c' ∧ c' ≤ maxLen ∧ Toks w B A' r.length r := by
 obtain ⟨ad, A', c', h1, h2, h3, h4, h5, h6⟩ := h.at_ (k := 0) (by simp)
 have h7 : w.cell? (ad.add 0) = some (.slice A' r.length c') := h3
 have h8 : ad.add 0 = ad := by unfold Addr.add; rw [if_pos rfl]
 rw [h8] at h7
 exact ⟨ad, A', c', h1, h2, h7, h4, h5, h6⟩
theorem RowsIn.tail {w : World} {B n : Nat} {ad : Addr} {r : List Tok} {rs : List (List Tok)} (h : RowsIn w B (some ad) (n + 1) (r :: rs)) : RowsIn w B (some ⟨ad.block, ad.off + 1, none⟩) n rs := by
 obtain ⟨h1, xs, h2, h3, h4⟩ := h
 have hl : rs.length = n := by simpa using h1
 refine ⟨hl, xs.drop 1, by rw [List.length_drop, h2]; omega, ?_, fun i hi => ?_⟩
 ·rcases h3 with h3 | ⟨a, e, hb, hc⟩
  ·rw [h3] at h2; simp at h2
  ·injection e with e
   subst e
   have h8 : (⟨ad.block, ad.off + 1, none⟩ : Addr) = ad.add 1 := by unfold Addr.add; rw [if_neg (by omega)]
   rw [h8]
   refine .inr ⟨_, rfl, by rw [add_block]; exact hb, fun j u hu => ?_⟩
   rw [add_add']
   exact hc _ u (by rw [← hu, List.getElem?_drop])
 ·obtain ⟨A', c', e1, e2, e3, e4⟩ := h4 (i + 1) (by simp; omega)
  refine ⟨A', c', ?_, e2, e3, e4⟩
  rw [List.getElem?_drop, Nat.add_comm 1 i]
  exact e1
theorem RowsIn.one {w : World} {B n c : Nat} {ad ad' : Addr} {rs : List (List Tok)} (h : RowsIn w B (some ad') n rs) (hc : n + 1 ≤ c) : (c = 1 ∧ RowsIn w B (some ad) n rs) ∨ (c ≠ 1 ∧ RowsIn w B (some ad') n rs) := by
 by_cases e : c = 1
 ·refine .inl ⟨e, ?_⟩
  have h0 : n = 0 := by omega
  subst h0
  have h1 : rs = [] := List.eq_nil_of_length_eq_zero h.len
  subst h1
  exact ⟨rfl, [], rfl, .inl rfl, fun i hi => absurd hi (by simp)⟩
 ·exact .inr ⟨e, h⟩
def DispPost (w : World) (q : List UInt8 × List (List UInt8 × List UInt8)) (e : Ending) (w' : World) : Prop := ∃ v, e = .returned (.tuple #[.string (ba q.1), v]) ∧ OwnPars w' w.heap.size v q.2 ∧ Below w.heap.size w w'
theorem disp_fin {w w' : World} {q : List UInt8 × List (List UInt8 × List UInt8)} {f : List UInt8} {ps : List (List UInt8 × List UInt8)} {v : Value} {s : ByteArray} (h : q = (f, ps)) (hs : s = ba f) (ho : OwnPars w' w.heap.size v ps) (hb : Below w.heap.size w w') : DispPost w q (.returned (.tuple #[.string s, v])) w' := by
 subst h; subst hs
 exact ⟨v, rfl, ho, hb⟩
set_option maxRecDepth 100000 in
theorem disp_any (l : List UInt8) (w : World) (hl : l.length ≤ 10000000) (hT : Tabs w) :
  Calls Tryz.prog 101 #[.string (ba l)] w (DispPost w (dispT l)) := by
 have HT := Lib.hid hT
 have HOK := Lib.hid (tokRows_ok l)
 have HRA := Lib.hid (rows_any l w (by omega))
 obtain ⟨r, rs, hrs⟩ := rows_first l
 have HD0 := Lib.hid (show ∀ f, smallP (joinP r) = f → dispT l = (if isWord f = true then f else [], paramsP rs) from fun f hf => by
  subst hf
  unfold dispT
  rw [hrs]
  rfl)
 rw [hrs] at HOK HRA
 unfold RowsPost at HRA
 have hrl := HOK.out.1 r (List.mem_cons_self ..)
 have hnl := HOK.out.2
 clear hT hrs
 go_enter Tryz.func101, Tryz.ntmps101
 go_wp2_with fail
 refine HRA.out.mono ?_
 rintro e w1 ⟨v1, xs, rfl, hra, hb1⟩
 obtain ⟨A1, c1, rfl, hc1, hc2, hin⟩ := hra.rows
 have HIN := Lib.hid hin
 have HB1 := Lib.hid hb1
 obtain ⟨ad, A2, c2, rfl, hbl, hcell, hc3, hc4, htk⟩ := hin.first
 have HTK := Lib.hid htk
 have HC34 := Lib.hid (And.intro hc3 hc4)
 have HC12 := Lib.hid (And.intro hc1 hc2)
 clear hra hb1 hin htk hc3 hc4
 have hl1 : (r :: rs).length = rs.length + 1 := rfl
 rw [hl1] at hc1 HIN hnl ⊢
 have HCUT := Lib.hid HIN.out.tail
 obtain ⟨m, hm⟩ : ∃ m, rs.length = m := ⟨_, rfl⟩
 rw [hm] at HCUT HIN hc1 hnl
 rw [hm]
 have HNL := Lib.hid hnl
 clear hl1 hm HC12
 go_wp2_with fail
 refine (tjoin_any r A2 r.length c2 w1 HTK.out (by omega) (by omega)).mono ?_
 rintro e w2 ⟨rfl, hb2⟩
 have HB2 := Lib.hid hb2
 clear hb2
 go_wp2_with fail
 refine (csmall_any (joinP r) w2 (by omega)).mono ?_
 rintro e w3 ⟨rfl, hb3⟩
 have HB3 := Lib.hid (show Below w1.heap.size w1 w3 from HB2.out.trans (hb3.mono HB2.out.size))
 clear hb3
 obtain ⟨f, hf⟩ : ∃ f, smallP (joinP r) = f := ⟨_, rfl⟩
 have hfl : f.length ≤ 1000000000 := by rw [← hf, smallP_len]; omega
 have HD := Lib.hid (HD0.out f hf)
 rw [hf]
 have HW := Lib.hid (word_any f w3 hfl)
 clear hf
 rcases HCUT.out.one (ad := ad) hc1 with ⟨hcc, hin9⟩ | ⟨hcc, hin9⟩
 ·have HIN9 := Lib.hid hin9
  subst hcc
  have hm0 : m = 0 := by omega
  subst hm0
  clear hin9 hc1
  have HLI := Lib.hid (show ∀ W, Below w3.heap.size w3 W → _ from fun W hW => list_any rs (some ad) 0 0 W ((HIN9.out.below (HB3.out.trans (hW.mono HB3.out.size))).more (Nat.le_trans HB3.out.size hW.size)) (by have := HNL.out; omega) (fun r hr => by have := HOK.out.1 r (List.mem_cons_of_mem _ hr); omega) (HT.out.below (HB1.out.trans ((HB3.out.trans (hW.mono HB3.out.size)).mono HB1.out.size))))
  by_cases hw : isWord f = true
  ·rw [hw] at HW
   rw [if_pos hw] at HD
   clear hw
   go_wp2_with fail
   refine HW.out.mono ?_
   rintro e w4 ⟨rfl, hw4⟩
   have hw5 := hw4.symm
   subst hw5
   clear hw4
   go_wp2_with fail
   refine (HLI.out w3 (Below.refl _ _)).mono ?_
   rintro e w5 ⟨v5, rfl, ho5, hb5⟩
   have HO5 := Lib.hid (ho5.more (Nat.le_trans HB1.out.size HB3.out.size))
   have HB5 := Lib.hid (HB1.out.trans ((HB3.out.trans (hb5.mono HB3.out.size)).mono HB1.out.size))
   clear ho5 hb5
   go_wp2
   go_ret2
   exact disp_fin HD.out rfl HO5.out HB5.out
  ·have hw2 : isWord f = false := by simpa using hw
   rw [hw2] at HW
   rw [if_neg hw] at HD
   clear hw hw2
   go_wp2_with fail
   refine HW.out.mono ?_
   rintro e w4 ⟨rfl, hw4⟩
   have hw5 := hw4.symm
   subst hw5
   clear hw4
   go_wp2_with fail
   refine (HLI.out w3 (Below.refl _ _)).mono ?_
   rintro e w5 ⟨v5, rfl, ho5, hb5⟩
   have HO5 := Lib.hid (ho5.more (Nat.le_trans HB1.out.size HB3.out.size))
   have HB5 := Lib.hid (HB1.out.trans ((HB3.out.trans (hb5.mono HB3.out.size)).mono HB1.out.size))
   clear ho5 hb5
   go_wp2
   go_ret2
   exact disp_fin HD.out rfl HO5.out HB5.out
 ·have HIN9 := Lib.hid hin9
  clear hin9
  have HLI := Lib.hid (show ∀ W, Below w3.heap.size w3 W → _ from fun W hW => list_any rs (some ⟨ad.block, ad.off + 1, none⟩) m (c1 - 1) W ((HIN9.out.below (HB3.out.trans (hW.mono HB3.out.size))).more (Nat.le_trans HB3.out.size hW.size)) (by have := HNL.out; omega) (fun r hr => by have := HOK.out.1 r (List.mem_cons_of_mem _ hr); omega) (HT.out.below (HB1.out.trans ((HB3.out.trans (hW.mono HB3.out.size)).mono HB1.out.size))))
  by_cases hw : isWord f = true
  ·rw [hw] at HW
   rw [if_pos hw] at HD
   clear hw
   go_wp2_with fail
   refine HW.out.mono ?_
   rintro e w4 ⟨rfl, hw4⟩
   have hw5 := hw4.symm
   subst hw5
   clear hw4
   go_wp2_with fail
   refine (HLI.out w3 (Below.refl _ _)).mono ?_
   rintro e w5 ⟨v5, rfl, ho5, hb5⟩
   have HO5 := Lib.hid (ho5.more (Nat.le_trans HB1.out.size HB3.out.size))
   have HB5 := Lib.hid (HB1.out.trans ((HB3.out.trans (hb5.mono HB3.out.size)).mono HB1.out.size))
   clear ho5 hb5
   go_wp2
   go_ret2
   exact disp_fin HD.out rfl HO5.out HB5.out
  ·have hw2 : isWord f = false := by simpa using hw
   rw [hw2] at HW
   rw [if_neg hw] at HD
   clear hw hw2
   go_wp2_with fail
   refine HW.out.mono ?_
   rintro e w4 ⟨rfl, hw4⟩
   have hw5 := hw4.symm
   subst hw5
   clear hw4
   go_wp2_with fail
   refine (HLI.out w3 (Below.refl _ _)).mono ?_
   rintro e w5 ⟨v5, rfl, ho5, hb5⟩
   have HO5 := Lib.hid (ho5.more (Nat.le_trans HB1.out.size HB3.out.size))
   have HB5 := Lib.hid (HB1.out.trans ((HB3.out.trans (hb5.mono HB3.out.size)).mono HB1.out.size))
   clear ho5 hb5
   go_wp2
   go_ret2
   exact disp_fin HD.out rfl HO5.out HB5.out
def ParPost (w : World) (o : Option (List UInt8)) (e : Ending) (w' : World) : Prop := e = .returned (.tuple #[.string (ba (o.getD [])), .bool o.isSome]) ∧ Below w.heap.size w w'
theorem par_end {w w' : World} {o : Option (List UInt8)} {v : List UInt8} {s : ByteArray} (h : o = some v) (hs : s = ba v) (hb : Below w.heap.size w w') : ParPost w o (.returned (.tuple #[.string s, .bool true])) w' := by
 subst h; subst hs
 exact ⟨rfl, hb⟩
theorem par_end0 {w w' : World} {o : Option (List UInt8)} (h : o = none) (hb : Below w.heap.size w w') : ParPost w o (.returned (.tuple #[.string ⟨#[]⟩, .bool false])) w' := by
 subst h
 exact ⟨rfl, hb⟩
structure PmRel (w : World) (ps : List (List UInt8 × List UInt8)) (name : List UInt8) (k : Nat) (wr : World) : Prop where
 eq : paramT ps name = paramT (ps.drop k) name
 bel : Below w.heap.size w wr
set_option maxRecDepth 100000 in
theorem param_any (ps : List (List UInt8 × List UInt8)) (name : List UInt8) (A : Option Addr) (n c : Nat) (w : World) (hP : Pars w w.heap.size A n ps) (hn : n ≤ 1000000000) (hs : ∀ p ∈ ps, p.1.length ≤ 1000000000) (hl : name.length ≤ 1000000000) :
  Calls Tryz.prog 42 #[.slice A n c, .string (ba name)] w (ParPost w (paramT ps name)) := by
 have HP := Lib.hid hP
 have HS := Lib.hid hs
 have HN := Lib.hid hP.len
 clear hP hs
 go_enter Tryz.func42, Tryz.ntmps42
 go_wp2
 go_loopw [10] (fun i wr => ∃ k : Nat, k ≤ n ∧ i = .int .i64 (k : Int) ∧ Hid (PmRel w ps name k wr)) (fun i _ => n - (intOf i).toNat)
 case atStart => exact ⟨0, Nat.zero_le _, rfl, Lib.hid ⟨rfl, Below.refl _ _⟩⟩
 case round =>
  obtain ⟨k, hk, rfl, HR⟩ := hrel
  have hsz := HR.out.bel.size
  by_cases hlt : k < n
  ·have hk2 : (k : Int) < n := by omega
   have hkl : k < ps.length := by rw [HN.out]; exact hlt
   obtain ⟨ad, rfl, hbl, c0, c1, -⟩ := (HP.out.below HR.out.bel).2 k hkl
   have hpl := HS.out _ (List.getElem_mem hkl)
   have heq := HR.out.eq
   rw [List.drop_eq_getElem_cons hkl] at heq
   have HBE := Lib.hid HR.out.bel
   obtain ⟨p, hp⟩ : ∃ p, ps[k] = p := ⟨_, rfl⟩
   rw [hp] at c0 c1 hpl heq
   obtain ⟨p1, p2⟩ := p
   have hpl1 : p1.length ≤ 1000000000 := hpl
   have d0 : wr.cell? (ad.add (k * 2)) = some (.string (ba p1)) := c0
   have d1 : wr.cell? ⟨(ad.add (k * 2)).block, (ad.add (k * 2)).off + 1, none⟩ = some (.string (ba p2)) := c1
   have HST := Lib.hid (show paramT ((p1, p2) :: ps.drop (k + 1)) name = if smallP p1 = smallP name then some p2 else paramT (ps.drop (k + 1)) name from by
    unfold paramT
    rw [List.find?_cons]
    by_cases h : smallP p1 = smallP name
    ·rw [if_pos h, decide_eq_true h]; rfl
    ·rw [if_neg h, decide_eq_false h])
   have HEQ := Lib.hid heq
   have HB1 := Lib.hid (HBE.out.alloc hsz (.cells #[.string (ba p1), .string (ba p2)] 30))
   have HSA := Lib.hid (fun W => csmall_any p1 W hpl1)
   have HSN := Lib.hid (fun W => csmall_any name W hl)
   unfold StrB at HSA HSN
   obtain ⟨a1, ha1⟩ : ∃ a, smallP p1 = a := ⟨_, rfl⟩
   obtain ⟨b1, hb1⟩ : ∃ a, smallP name = a := ⟨_, rfl⟩
   simp only [ha1] at HSA
   simp only [hb1] at HSN
   rw [ha1, hb1] at HST
   clear hp hpl hkl hbl c0 c1 heq hpl1 ha1 hb1 HR
   by_cases he : a1 = b1
   ·subst he
    have HF := Lib.hid (show paramT ps name = some p2 by rw [HEQ.out, HST.out, if_pos rfl])
    go_wp2_with fail
    refine (HSA.out _).mono ?_
    rintro e w2 ⟨rfl, hb2⟩
    have e1 : w2.cell? ⟨wr.heap.size, 1, none⟩ = some (.string (ba p2)) := (hb2.cell (p := ⟨wr.heap.size, 1, none⟩) (by simp)).trans (by go_simp)
    have HB2 := Lib.hid (HB1.out.trans (hb2.mono HB1.out.size))
    have hz2 : wr.heap.size < w2.heap.size := by have := hb2.size; simp at this; omega
    clear hb2
    go_wp2_with fail
    refine (HSN.out _).mono ?_
    rintro e w3 ⟨rfl, hb3⟩
    have e2 : w3.cell? ⟨wr.heap.size, 1, none⟩ = some (.string (ba p2)) := (hb3.cell (p := ⟨wr.heap.size, 1, none⟩) (by show wr.heap.size < _; omega)).trans e1
    have HB3 := Lib.hid (HB2.out.trans (hb3.mono HB2.out.size))
    clear hb3
    go_wp2
    go_ret2
    exact par_end HF.out rfl HB3.out
   ·have g2 : ((ba a1).toList == (ba b1).toList) = false := by rw [ba_toList, ba_toList]; simpa using he
    have g3 : ¬ (ba a1).toList = (ba b1).toList := by rw [ba_toList, ba_toList]; exact he
    have g4 : ¬ ba a1 = ba b1 := fun h => he (ba_inj.1 h)
    have HF := Lib.hid (show paramT ps name = paramT (ps.drop (k + 1)) name by rw [HEQ.out, HST.out, if_neg he])
    clear he
    go_wp2_with fail
    refine (HSA.out _).mono ?_
    rintro e w2 ⟨rfl, hb2⟩
    have HB2 := Lib.hid (HB1.out.trans (hb2.mono HB1.out.size))
    clear hb2
    go_wp2_with fail
    refine (HSN.out _).mono ?_
    rintro e w3 ⟨rfl, hb3⟩
    have HB3 := Lib.hid (HB2.out.trans (hb3.mono HB2.out.size))
    clear hb3
    go_wp2
    go_roundw
    case rel => exact ⟨k + 1, by omega, by go_num, Lib.hid ⟨HF.out, HB3.out⟩⟩
    case measure => simp [intOf] <;> omega
  ·obtain rfl : k = n := by omega
   have HF := Lib.hid (show paramT ps name = none by
    rw [HR.out.eq, List.drop_of_length_le (by rw [HN.out]; exact Nat.le_refl _)]
    rfl)
   have HB := Lib.hid HR.out.bel
   clear HR
   go_wp2
   go_ret2
   exact par_end0 HF.out HB.out
theorem tags_not {c : UInt8} (h : c ≠ 60) (l : List UInt8) : tagsB (c :: l) = false := by
 cases l with
 | nil => rfl
 | cons d r => unfold tagsB; simp [h]
def markP : List UInt8 → List UInt8
 | [] => []
 | c :: r => (if c = 38 then [38, 97, 109, 112, 59] else if c = 60 then [38, 108, 116, 59] else [c]) ++ markP r
theorem strip_mark : ∀ l, stripP (markP l) = l
 | [] => rfl
 | c :: r => by
  have ih := strip_mark r
  unfold markP
  by_cases h1 : c = 38
  ·rw [if_pos h1, show ([38, 97, 109, 112, 59] : List UInt8) ++ markP r = 38 :: ([97, 109, 112, 59] ++ markP r) from rfl, stripP_ent (a := [38]) (b := markP r) (tags_not (by decide) _) rfl rfl, ih, h1]
   rfl
  ·rw [if_neg h1]
   by_cases h2 : c = 60
   ·rw [if_pos h2, show ([38, 108, 116, 59] : List UInt8) ++ markP r = 38 :: ([108, 116, 59] ++ markP r) from rfl, stripP_ent (a := [60]) (b := markP r) (tags_not (by decide) _) rfl rfl, ih, h2]
    rfl
   ·rw [if_neg h2, List.singleton_append, stripP_byte (tags_not h2 _) (fun e => absurd e h1), ih]
end Go.Proofs.YthidbmeaccpjdaaGreatDoor
