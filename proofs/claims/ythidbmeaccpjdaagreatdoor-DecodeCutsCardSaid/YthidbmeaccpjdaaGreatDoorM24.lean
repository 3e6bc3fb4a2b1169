/- Layer 15: the contract of entity (printed by gen_decd.py). Layer 15: the contract of Strip. Layer 15: the contract of Bytes (a part's content). Layers 14 and 15, plain: a message whose header section is known. The law's helper whole: the first part of a message. How long the params of a type or a disposition are, by the length of what is read. -/
import Derived.Test.YthidbmeaccpjdaaGreatDoorM23
import Derived.Test.YthidbmeaccpjdaaGreatDoorM07
import Derived.Test.YthidbmeaccpjdaaGreatDoorM08
import Derived.Test.YthidbmeaccpjdaaGreatDoorM19
import Derived.Test.YthidbmeaccpjdaaGreatDoorM20
import Derived.Test.YthidbmeaccpjdaaGreatDoorM21
import Derived.Test.YthidbmeaccpjdaaGreatDoorM02
import Derived.Test.YthidbmeaccpjdaaGreatDoorM12
import Derived.Test.YthidbmeaccpjdaaGreatDoorM22
section
namespace Go.Proofs.YthidbmeaccpjdaaGreatDoor
open Go.RowKit
set_option linter.unusedVariables false
theorem rune_big (n : Int) (w : World) (h : 1114111 < n) : Calls Tryz.prog 118 #[.int .i64 n] w fun e w' => e = .returned (.string (ba (Lib.encodeRune 65533))) ∧ w' = w := by
 have g1 : decide (n < 0) = false := decide_eq_false (by omega)
 have g2 : decide (1114111 < n) = true := decide_eq_true h
 go_enter Tryz.func118, Tryz.ntmps118
 go_wp2
 go_ret
 exact ⟨by kernel_rfl, rfl⟩
theorem runeC_any (n : Nat) (w : World) : Calls Tryz.prog 118 #[.int .i64 (n : Int)] w fun e w' => e = .returned (.string (ba (runeC n))) ∧ w' = w := by
 unfold runeC
 by_cases h : 1114111 < n
 ·rw [if_pos h]
  exact rune_big _ w (by omega)
 ·rw [if_neg h]
  exact rune_any _ w (by omega) (by omega)
def entR (name : List UInt8) : Option Int := (entNames.find? fun q => decide (q.1 = name)).map fun q => (q.2 : Int)
theorem entR_bd {name : List UInt8} {r : Int} (h : entR name = some r) : 0 ≤ r ∧ r ≤ 127 ∧ entV name = some (Lib.encodeRune r) := by
 unfold entR at h
 obtain ⟨q, hq, rfl⟩ := Option.map_eq_some_iff.1 h
 have hm := List.mem_of_find?_eq_some hq
 have hall : ∀ q ∈ entNames, q.2 ≤ 127 := by decide
 have := hall q hm
 refine ⟨by omega, by omega, ?_⟩
 unfold entV
 rw [hq]
theorem entR_none {name : List UInt8} (h : entR name = none) : (entNames.find? fun q => decide (q.1 = name)) = none := by
 unfold entR at h
 exact Option.map_eq_none_iff.1 h
theorem entV_not {name : List UInt8} (h : entR name = none) (hp : ([35] : List UInt8).isPrefixOf name = false) : entV name = none := by
 unfold entV
 rw [entR_none h]
 match name, hp with
 | [], _ => rfl
 | c :: t, hp =>
  have : c ≠ 35 := fun e => by subst e; simp [List.isPrefixOf] at hp
  show (if c = 35 then _ else none) = none
  rw [if_neg this]
def entNum : List UInt8 → Option (List UInt8)
 | x :: u => if x = 120 ∨ x = 88 then (numP u 16 6).map runeC else (numP (x :: u) 10 7).map runeC
 | [] => none
theorem entV_hash {t : List UInt8} (h : entR (35 :: t) = none) : entV (35 :: t) = entNum t := by
 unfold entV
 rw [entR_none h]
 show (if (35 : UInt8) = 35 then _ else none) = _
 rw [if_pos rfl]
 cases t <;> rfl
def EntM (w : World) : Prop := ∃ mb, w.cell? ⟨0, 0, none⟩ = some (.map (some mb)) ∧ 0 < w.heap.size ∧ ∀ w', Below w.heap.size w w' → ∀ name : List UInt8, name.length ≤ 1000000000 →
 (Instr.lookup 114 (.map (some mb)) (.string (ba name)) true).run Tryz.prog w' = .ok (.tuple #[.int .i32 ((entR name).getD 0), .bool (entR name).isSome]) w'
theorem EntM.below {w w' : World} (h : EntM w) (hb : Below w.heap.size w w') : EntM w' := by
 obtain ⟨mb, h1, h2, h3⟩ := h
 exact ⟨mb, (hb.cell (p := ⟨0, 0, none⟩) h2).trans h1, Nat.lt_of_lt_of_le h2 hb.size, fun w2 hb2 => h3 w2 (hb.trans (hb2.mono hb.size))⟩
def EnPost (w : World) (o : Option (List UInt8 × List UInt8)) (e : Ending) (w' : World) : Prop := e = .returned (.tuple #[.string (ba (o.getD ([], [])).1), .string (ba (o.getD ([], [])).2), .bool o.isSome]) ∧ Below w.heap.size w w'
theorem en_no {w w' : World} {o : Option (List UInt8 × List UInt8)} (h : o = none) (hb : Below w.heap.size w w') : EnPost w o (.returned (.tuple #[.string ⟨#[]⟩, .string ⟨#[]⟩, .bool false])) w' := by
 subst h
 exact ⟨rfl, hb⟩
theorem en_yes {w w' : World} {o : Option (List UInt8 × List UInt8)} {a b : List UInt8} {s : ByteArray} (h : o = some (a, b)) (hs : s = ba a) (hb : Below w.heap.size w w') : EnPost w o (.returned (.tuple #[.string s, .string (ba b), .bool true])) w' := by
 subst h hs
 exact ⟨rfl, hb⟩
set_option maxRecDepth 100000 in
set_option maxHeartbeats 4000000 in
theorem entity_any (c : UInt8) (t : List UInt8) (w : World) (hl : t.length ≤ 100000000) (hT : Tabs w) (hE : EntM w) :
  Calls Tryz.prog 55 #[.string (ba (c :: t))] w (EnPost w (entP (c :: t))) := by
 have HT := Lib.hid hT
 have hx1 : (ba (c :: t)).extract 1 (ba (c :: t)).size = ba t := ba_drop _ _
 have h1i : (1 : Int) ≤ ((ba (c :: t)).size : Int) := by rw [ba_size]; simp; omega
 have HCU := Lib.hid (cut_any 59 t w (by omega) hT)
 unfold CutPost at HCU
 have HEP := Lib.hid (show entP (c :: t) = match cutP 59 t with
  | none => none
  | some q => (entV q.1).map fun v => (v, q.2) from rfl)
 obtain ⟨o, ho⟩ : ∃ o, entP (c :: t) = o := ⟨_, rfl⟩
 rw [ho] at HEP ⊢
 obtain ⟨S, hS⟩ : ∃ S, ba (c :: t) = S := ⟨_, rfl⟩
 rw [hS] at hx1 h1i ⊢
 obtain ⟨mb, hm1, hm2, hm3⟩ := hE
 have HM := Lib.hid hm3
 clear ho hS hT hm3
 cases hcp : cutP 59 t with
 | none =>
  rw [hcp] at HEP
  have hcv : cutV 59 t = (t, [], false) := by unfold cutV; rw [hcp]
  rw [hcv] at HCU
  clear hcp hcv
  go_enter Tryz.func55, Tryz.ntmps55
  go_wp2_with fail
  refine HCU.out.mono ?_
  rintro e w2 ⟨rfl, nn, rfl⟩
  go_wp2
  go_ret3
  exact en_no HEP.out (below_drewN (Below.refl _ _) nn)
 | some q =>
  obtain ⟨n, r⟩ := q
  rw [hcp] at HEP
  have hcv : cutV 59 t = (n, r, true) := by unfold cutV; rw [hcp]
  rw [hcv] at HCU
  have hnl : n.length ≤ 100000000 := by have := (cutP_some hcp).1; rw [this] at hl; simp at hl; omega
  have HLK := Lib.hid (fun W hW => HM.out W hW n (by omega))
  have HC := Lib.hid (show ∀ W, Calls Tryz.prog 110 #[.string (ba n), .string ⟨#[35]⟩] W fun e w' => e = .returned (.tuple #[.string (ba (if ([35] : List UInt8).isPrefixOf n = true then n.drop 1 else n)), .bool (([35] : List UInt8).isPrefixOf n)]) ∧ w' = W from fun W => cutpre_any [35] n W)
  clear hcp hcv
  cases her : entR n with
  | some x =>
   obtain ⟨x0, x1, hv⟩ := entR_bd her
   have HF := Lib.hid (show o = some (Lib.encodeRune x, r) by rw [HEP.out]; show (entV n).map _ = _; rw [hv]; rfl)
   have HEN := Lib.hid (enc_eq x x0)
   simp only [her, Option.getD_some, Option.isSome_some] at HLK
   clear her hv HEP HC
   go_enter Tryz.func55, Tryz.ntmps55
   go_wp2_with fail
   refine HCU.out.mono ?_
   rintro e w2 ⟨rfl, nn, rfl⟩
   obtain ⟨w2, hw2⟩ : ∃ W, w.drewN nn = W := ⟨_, rfl⟩
   have HB2 := Lib.hid (show Below w.heap.size w w2 by rw [← hw2]; exact below_drewN (Below.refl _ _) nn)
   have hlk := HLK.out w2 HB2.out
   have hm3 := (HB2.out.cell (p := ⟨0, 0, none⟩) hm2).trans hm1
   rw [hw2]
   clear hw2
   go_wp2
   go_ret3
   exact en_yes HF.out (by rw [← HEN.out]) HB2.out
  | none =>
   simp only [her, Option.getD_none, Option.isSome_none] at HLK
   cases hp : ([35] : List UInt8).isPrefixOf n with
   | false =>
    have HF := Lib.hid (show o = none by rw [HEP.out]; show (entV n).map _ = _; rw [entV_not her hp]; rfl)
    simp only [hp, Bool.false_eq_true, if_false] at HC
    clear her hp HEP
    go_enter Tryz.func55, Tryz.ntmps55
    go_wp2_with fail
    refine HCU.out.mono ?_
    rintro e w2 ⟨rfl, nn, rfl⟩
    obtain ⟨w2, hw2⟩ : ∃ W, w.drewN nn = W := ⟨_, rfl⟩
    have HB2 := Lib.hid (show Below w.heap.size w w2 by rw [← hw2]; exact below_drewN (Below.refl _ _) nn)
    have hlk := HLK.out w2 HB2.out
    have hm3 := (HB2.out.cell (p := ⟨0, 0, none⟩) hm2).trans hm1
    rw [hw2]
    clear hw2
    go_wp2_with fail
    refine (HC.out _).mono ?_
    rintro e w3 ⟨rfl, hw⟩
    have hw2 := hw.symm
    subst hw2
    clear hw
    go_wp2
    go_ret3
    exact en_no HF.out HB2.out
   | true =>
    obtain ⟨u, rfl⟩ : ∃ u, n = 35 :: u := by
     obtain ⟨u, h⟩ := List.isPrefixOf_iff_prefix.1 hp
     exact ⟨u, h.symm⟩
    simp only [hp, if_true, List.drop_succ_cons, List.drop_zero] at HC
    have hul : u.length ≤ 100000000 := by simp at hnl; omega
    have HEV := Lib.hid (entV_hash her)
    have HD10 := Lib.hid (fun W => digits_any u 10 7 W hul (by decide) (by decide) (by decide))
    unfold DgPost at HD10
    obtain ⟨N, hN⟩ : ∃ N : List UInt8, (35 :: u : List UInt8) = N := ⟨_, rfl⟩
    rw [hN] at HEV hnl
    simp only [hN] at HC HLK HEP
    rw [hN] at HCU
    clear her hp hN
    cases u with
    | nil =>
     have HF := Lib.hid (show o = none by rw [HEP.out]; show (entV N).map _ = _; rw [HEV.out]; rfl)
     have g1 : (ba ([] : List UInt8)).toList.isEmpty = true := by rw [ba_toList]; rfl
     have hnp : numP [] 10 7 = none := rfl
     simp only [hnp, Option.isSome_none] at HD10
     clear HEP HEV hnp
     go_enter Tryz.func55, Tryz.ntmps55
     go_wp2_with fail
     refine HCU.out.mono ?_
     rintro e w2 ⟨rfl, nn, rfl⟩
     obtain ⟨w2, hw2⟩ : ∃ W, w.drewN nn = W := ⟨_, rfl⟩
     have HB2 := Lib.hid (show Below w.heap.size w w2 by rw [← hw2]; exact below_drewN (Below.refl _ _) nn)
     have hlk := HLK.out w2 HB2.out
     have hm3 := (HB2.out.cell (p := ⟨0, 0, none⟩) hm2).trans hm1
     rw [hw2]
     clear hw2
     go_wp2_with fail
     refine (HC.out _).mono ?_
     rintro e w3 ⟨rfl, hw⟩
     have hw2 := hw.symm
     subst hw2
     clear hw
     go_wp2_with fail
     refine (HD10.out _).mono ?_
     rintro e w4 ⟨v4, rfl, -, hb4⟩
     have HB4 := Lib.hid (HB2.out.trans (hb4.mono HB2.out.size))
     clear hb4
     go_wp2
     go_ret3
     exact en_no HF.out HB4.out
    | cons x u =>
     have g1 : (ba (x :: u)).toList.isEmpty = false := by rw [ba_toList]; rfl
     have hx2 : (ba (x :: u)).extract 1 (ba (x :: u)).size = ba u := ba_drop _ _
     have h2i : (1 : Int) ≤ ((ba (x :: u)).size : Int) := by rw [ba_size]; simp; omega
     obtain ⟨X, hX⟩ : ∃ X : Int, (x.toNat : Int) = X := ⟨_, rfl⟩
     have hgi : ∃ h : 0 < (ba (x :: u)).size, (((ba (x :: u))[0]'h).toNat : Int) = X := ⟨by rw [ba_size]; simp, hX⟩
     have HX2 := Lib.hid hx2
     have HD16 := Lib.hid (show ∀ W, Calls Tryz.prog 117 #[.string (ba u), .int .i64 16, .int .i64 6] W (DgPost W (numP u 16 6)) from fun W => digits_any u 16 6 W (by simp at hul; omega) (by decide) (by decide) (by decide))
     have HD10' := Lib.hid (show ∀ W, Calls Tryz.prog 117 #[.string (ba (x :: u)), .int .i64 10, .int .i64 7] W (DgPost W (numP (x :: u) 10 7)) from HD10.out)
     unfold DgPost at HD16 HD10'
     obtain ⟨U, hU⟩ : ∃ U, ba (x :: u) = U := ⟨_, rfl⟩
     simp only [hU] at HC HD10'
     rw [hU] at g1 hx2 h2i hgi HX2
     have e120 : x = 120 ↔ X = 120 := ⟨fun h => by rw [← hX, h]; rfl, fun h => UInt8.toNat_inj.1 (by have : (120 : UInt8).toNat = 120 := rfl; omega)⟩
     have e88 : x = 88 ↔ X = 88 := ⟨fun h => by rw [← hX, h]; rfl, fun h => UInt8.toNat_inj.1 (by have : (88 : UInt8).toNat = 88 := rfl; omega)⟩
     clear hX hU HD10 hx2
     obtain ⟨hz0, hgj⟩ := hgi
     by_cases x1 : X = 120
     ·have k1 : (X == 120) = true := by rw [x1]; rfl
      have hxx : x = 120 ∨ x = 88 := .inl (e120.2 x1)
      have HEO := Lib.hid (show o = ((numP u 16 6).map runeC).map fun v => (v, r) by rw [HEP.out]; show (entV N).map _ = _; rw [HEV.out]; show (if x = 120 ∨ x = 88 then _ else _ : Option (List UInt8)).map _ = _; rw [if_pos hxx])
      clear HEP HEV hxx e120 e88
      cases hnp : numP u 16 6 with
      | none =>
       have HF := Lib.hid (show o = none by rw [HEO.out, hnp]; rfl)
       simp only [hnp, Option.isSome_none] at HD16
       clear hnp HEO
       go_enter Tryz.func55, Tryz.ntmps55
       go_wp2_with fail
       refine HCU.out.mono ?_
       rintro e w2 ⟨rfl, nn, rfl⟩
       obtain ⟨w2, hw2⟩ : ∃ W, w.drewN nn = W := ⟨_, rfl⟩
       have HB2 := Lib.hid (show Below w.heap.size w w2 by rw [← hw2]; exact below_drewN (Below.refl _ _) nn)
       have hlk := HLK.out w2 HB2.out
       have hm3 := (HB2.out.cell (p := ⟨0, 0, none⟩) hm2).trans hm1
       rw [hw2]
       clear hw2
       go_wp2_with fail
       refine (HC.out _).mono ?_
       rintro e w3 ⟨rfl, hw⟩
       have hw2 := hw.symm
       subst hw2
       clear hw
       go_wp2_with fail
       refine (HD10'.out _).mono ?_
       rintro e w4 ⟨v4, rfl, hv4, hb4⟩
       have HB4 := Lib.hid (HB2.out.trans (hb4.mono HB2.out.size))
       clear hb4
       clear hv4
       go_wp2_with fail
       rw [HX2.out]
       refine (HD16.out _).mono ?_
       rintro e w5 ⟨v5, rfl, hv5, hb5⟩
       have HB5 := Lib.hid (HB4.out.trans (hb5.mono HB4.out.size))
       clear hb5
       clear hv5
       go_wp2
       go_ret3
       exact en_no HF.out HB5.out
      | some y =>
       have HF := Lib.hid (show o = some (runeC y, r) by rw [HEO.out, hnp]; rfl)
       simp only [hnp, Option.isSome_some] at HD16
       clear hnp HEO
       go_enter Tryz.func55, Tryz.ntmps55
       go_wp2_with fail
       refine HCU.out.mono ?_
       rintro e w2 ⟨rfl, nn, rfl⟩
       obtain ⟨w2, hw2⟩ : ∃ W, w.drewN nn = W := ⟨_, rfl⟩
       have HB2 := Lib.hid (show Below w.heap.size w w2 by rw [← hw2]; exact below_drewN (Below.refl _ _) nn)
       have hlk := HLK.out w2 HB2.out
       have hm3 := (HB2.out.cell (p := ⟨0, 0, none⟩) hm2).trans hm1
       rw [hw2]
       clear hw2
       go_wp2_with fail
       refine (HC.out _).mono ?_
       rintro e w3 ⟨rfl, hw⟩
       have hw2 := hw.symm
       subst hw2
       clear hw
       go_wp2_with fail
       refine (HD10'.out _).mono ?_
       rintro e w4 ⟨v4, rfl, hv4, hb4⟩
       have HB4 := Lib.hid (HB2.out.trans (hb4.mono HB2.out.size))
       clear hb4
       clear hv4
       go_wp2_with fail
       rw [HX2.out]
       refine (HD16.out _).mono ?_
       rintro e w5 ⟨v5, rfl, hv5, hb5⟩
       have HB5 := Lib.hid (HB4.out.trans (hb5.mono HB4.out.size))
       clear hb5
       obtain rfl := hv5 y rfl
       clear hv5
       go_wp2_with fail
       refine (runeC_any y _).mono ?_
       rintro e w9 ⟨rfl, hw⟩
       have hw2 := hw.symm
       subst hw2
       clear hw
       go_wp2
       go_ret3
       exact en_yes HF.out rfl HB5.out
     have k1 : (X == 120) = false := by simpa using x1
     by_cases x2 : X = 88
     ·have k2 : (X == 88) = true := by rw [x2]; rfl
      have hxx : x = 120 ∨ x = 88 := .inr (e88.2 x2)
      have HEO := Lib.hid (show o = ((numP u 16 6).map runeC).map fun v => (v, r) by rw [HEP.out]; show (entV N).map _ = _; rw [HEV.out]; show (if x = 120 ∨ x = 88 then _ else _ : Option (List UInt8)).map _ = _; rw [if_pos hxx])
      clear HEP HEV hxx e120 e88
      cases hnp : numP u 16 6 with
      | none =>
       have HF := Lib.hid (show o = none by rw [HEO.out, hnp]; rfl)
       simp only [hnp, Option.isSome_none] at HD16
       clear hnp HEO
       go_enter Tryz.func55, Tryz.ntmps55
       go_wp2_with fail
       refine HCU.out.mono ?_
       rintro e w2 ⟨rfl, nn, rfl⟩
       obtain ⟨w2, hw2⟩ : ∃ W, w.drewN nn = W := ⟨_, rfl⟩
       have HB2 := Lib.hid (show Below w.heap.size w w2 by rw [← hw2]; exact below_drewN (Below.refl _ _) nn)
       have hlk := HLK.out w2 HB2.out
       have hm3 := (HB2.out.cell (p := ⟨0, 0, none⟩) hm2).trans hm1
       rw [hw2]
       clear hw2
       go_wp2_with fail
       refine (HC.out _).mono ?_
       rintro e w3 ⟨rfl, hw⟩
       have hw2 := hw.symm
       subst hw2
       clear hw
       go_wp2_with fail
       refine (HD10'.out _).mono ?_
       rintro e w4 ⟨v4, rfl, hv4, hb4⟩
       have HB4 := Lib.hid (HB2.out.trans (hb4.mono HB2.out.size))
       clear hb4
       clear hv4
       go_wp2_with fail
       rw [HX2.out]
       refine (HD16.out _).mono ?_
       rintro e w5 ⟨v5, rfl, hv5, hb5⟩
       have HB5 := Lib.hid (HB4.out.trans (hb5.mono HB4.out.size))
       clear hb5
       clear hv5
       go_wp2
       go_ret3
       exact en_no HF.out HB5.out
      | some y =>
       have HF := Lib.hid (show o = some (runeC y, r) by rw [HEO.out, hnp]; rfl)
       simp only [hnp, Option.isSome_some] at HD16
       clear hnp HEO
       go_enter Tryz.func55, Tryz.ntmps55
       go_wp2_with fail
       refine HCU.out.mono ?_
       rintro e w2 ⟨rfl, nn, rfl⟩
       obtain ⟨w2, hw2⟩ : ∃ W, w.drewN nn = W := ⟨_, rfl⟩
       have HB2 := Lib.hid (show Below w.heap.size w w2 by rw [← hw2]; exact below_drewN (Below.refl _ _) nn)
       have hlk := HLK.out w2 HB2.out
       have hm3 := (HB2.out.cell (p := ⟨0, 0, none⟩) hm2).trans hm1
       rw [hw2]
       clear hw2
       go_wp2_with fail
       refine (HC.out _).mono ?_
       rintro e w3 ⟨rfl, hw⟩
       have hw2 := hw.symm
       subst hw2
       clear hw
       go_wp2_with fail
       refine (HD10'.out _).mono ?_
       rintro e w4 ⟨v4, rfl, hv4, hb4⟩
       have HB4 := Lib.hid (HB2.out.trans (hb4.mono HB2.out.size))
       clear hb4
       clear hv4
       go_wp2_with fail
       rw [HX2.out]
       refine (HD16.out _).mono ?_
       rintro e w5 ⟨v5, rfl, hv5, hb5⟩
       have HB5 := Lib.hid (HB4.out.trans (hb5.mono HB4.out.size))
       clear hb5
       obtain rfl := hv5 y rfl
       clear hv5
       go_wp2_with fail
       refine (runeC_any y _).mono ?_
       rintro e w9 ⟨rfl, hw⟩
       have hw2 := hw.symm
       subst hw2
       clear hw
       go_wp2
       go_ret3
       exact en_yes HF.out rfl HB5.out
     have k2 : (X == 88) = false := by simpa using x2
     have hxx : ¬ (x = 120 ∨ x = 88) := by rw [e120, e88]; exact fun h => h.elim x1 x2
     have HEO := Lib.hid (show o = ((numP (x :: u) 10 7).map runeC).map fun v => (v, r) by rw [HEP.out]; show (entV N).map _ = _; rw [HEV.out]; show (if x = 120 ∨ x = 88 then _ else _ : Option (List UInt8)).map _ = _; rw [if_neg hxx])
     clear HEP HEV hxx e120 e88
     cases hnp : numP (x :: u) 10 7 with
     | none =>
      have HF := Lib.hid (show o = none by rw [HEO.out, hnp]; rfl)
      simp only [hnp, Option.isSome_none] at HD10'
      clear hnp HEO
      go_enter Tryz.func55, Tryz.ntmps55
      go_wp2_with fail
      refine HCU.out.mono ?_
      rintro e w2 ⟨rfl, nn, rfl⟩
      obtain ⟨w2, hw2⟩ : ∃ W, w.drewN nn = W := ⟨_, rfl⟩
      have HB2 := Lib.hid (show Below w.heap.size w w2 by rw [← hw2]; exact below_drewN (Below.refl _ _) nn)
      have hlk := HLK.out w2 HB2.out
      have hm3 := (HB2.out.cell (p := ⟨0, 0, none⟩) hm2).trans hm1
      rw [hw2]
      clear hw2
      go_wp2_with fail
      refine (HC.out _).mono ?_
      rintro e w3 ⟨rfl, hw⟩
      have hw2 := hw.symm
      subst hw2
      clear hw
      go_wp2_with fail
      refine (HD10'.out _).mono ?_
      rintro e w4 ⟨v4, rfl, hv4, hb4⟩
      have HB4 := Lib.hid (HB2.out.trans (hb4.mono HB2.out.size))
      clear hb4
      clear hv4
      go_wp2
      go_ret3
      exact en_no HF.out HB4.out
     | some y =>
      have HF := Lib.hid (show o = some (runeC y, r) by rw [HEO.out, hnp]; rfl)
      simp only [hnp, Option.isSome_some] at HD10'
      clear hnp HEO
      go_enter Tryz.func55, Tryz.ntmps55
      go_wp2_with fail
      refine HCU.out.mono ?_
      rintro e w2 ⟨rfl, nn, rfl⟩
      obtain ⟨w2, hw2⟩ : ∃ W, w.drewN nn = W := ⟨_, rfl⟩
      have HB2 := Lib.hid (show Below w.heap.size w w2 by rw [← hw2]; exact below_drewN (Below.refl _ _) nn)
      have hlk := HLK.out w2 HB2.out
      have hm3 := (HB2.out.cell (p := ⟨0, 0, none⟩) hm2).trans hm1
      rw [hw2]
      clear hw2
      go_wp2_with fail
      refine (HC.out _).mono ?_
      rintro e w3 ⟨rfl, hw⟩
      have hw2 := hw.symm
      subst hw2
      clear hw
      go_wp2_with fail
      refine (HD10'.out _).mono ?_
      rintro e w4 ⟨v4, rfl, hv4, hb4⟩
      have HB4 := Lib.hid (HB2.out.trans (hb4.mono HB2.out.size))
      clear hb4
      obtain rfl := hv4 y rfl
      clear hv4
      go_wp2_with fail
      refine (runeC_any y _).mono ?_
      rintro e w9 ⟨rfl, hw⟩
      have hw2 := hw.symm
      subst hw2
      clear hw
      go_wp2
      go_ret3
      exact en_yes HF.out rfl HB4.out
end Go.Proofs.YthidbmeaccpjdaaGreatDoor
end
section
namespace Go.Proofs.YthidbmeaccpjdaaGreatDoor
open Go.RowKit
set_option linter.unusedVariables false
theorem behind_less {m : List UInt8} (hm : m ≠ []) (c : UInt8) (t : List UInt8) : (behindP m (c :: t)).length ≤ t.length := by
 unfold behindP Lib.cut
 split
 ·show ((c :: t).drop _).length ≤ _
  have : 0 < m.length := List.length_pos_iff.2 hm
  rw [List.length_drop, List.length_cons]
  omega
 ·exact Nat.zero_le _
theorem tag_rest (c : UInt8) (t : List UInt8) : (tagP (c :: t)).2.length ≤ t.length ∧ (tagP (c :: t)).1.length ≤ 1 := by
 unfold tagP
 have hb := behind_less (m := [62]) (by simp) c t
 have key : ∀ n : List UInt8, (if n ∈ breakNames then [10] else [] : List UInt8).length ≤ 1 := fun n => by split <;> simp
 split
 ·refine ⟨?_, by simp⟩
  have := behind_len [45, 45, 62] ((c :: t).drop 4)
  rw [List.length_drop, List.length_cons] at this
  show (behindP _ _).length ≤ _
  omega
 ·dsimp only
  split
  ·exact ⟨hb, key _⟩
  ·split
   ·exact ⟨Nat.zero_le _, key _⟩
   ·refine ⟨?_, key _⟩
    show (List.drop _ _).length ≤ _
    rw [List.length_drop]
    omega
theorem ent_rest {c : UInt8} {t a b : List UInt8} (h : entP (c :: t) = some (a, b)) : b.length ≤ t.length ∧ a.length ≤ 4 := by
 unfold entP at h
 simp only [List.drop_succ_cons, List.drop_zero] at h
 cases hc : cutP 59 t with
 | none => rw [hc] at h; cases h
 | some q =>
  rw [hc] at h
  dsimp only at h
  obtain ⟨v, hv, h2⟩ := Option.map_eq_some_iff.1 h
  injection h2 with h3 h4
  have h1 := congrArg List.length (cutP_some (a := q.1) (b := q.2) hc).1
  rw [List.length_append, List.length_cons] at h1
  refine ⟨by rw [← h4]; omega, ?_⟩
  rw [← h3]
  unfold entV at hv
  have hr : ∀ n, (runeC n).length ≤ 4 := fun n => by unfold runeC; split <;> exact enc_len _
  split at hv
  ·injection hv with hv
   rw [← hv]
   exact enc_len _
  ·split at hv
   ·split at hv
    ·split at hv
     ·split at hv
      ·obtain ⟨n, _, rfl⟩ := Option.map_eq_some_iff.1 hv
       exact hr n
      ·obtain ⟨n, _, rfl⟩ := Option.map_eq_some_iff.1 hv
       exact hr n
     ·cases hv
    ·cases hv
   ·cases hv
theorem stripF_fuel : ∀ (f g : Nat) (l : List UInt8), l.length ≤ f → l.length ≤ g → stripF f l = stripF g l
 | 0, g, l, hf, _ => by
  have : l = [] := List.eq_nil_of_length_eq_zero (by omega)
  subst this
  cases g <;> rfl
 | f + 1, 0, l, _, hg => by
  have : l = [] := List.eq_nil_of_length_eq_zero (by omega)
  subst this
  rfl
 | f + 1, g + 1, [], _, _ => rfl
 | f + 1, g + 1, c :: r, hf, hg => by
  rw [List.length_cons] at hf hg
  have h1 := tag_rest c r
  unfold stripF
  rw [stripF_fuel f g (tagP (c :: r)).2 (by omega) (by omega), stripF_fuel f g r (by omega) (by omega)]
  cases he : entP (c :: r) with
  | none => rfl
  | some q =>
   have h2 := ent_rest (a := q.1) (b := q.2) he
   dsimp only
   rw [stripF_fuel f g q.2 (by omega) (by omega)]
theorem stripP_nil : stripP [] = [] := rfl
theorem stripP_tag {c : UInt8} {r : List UInt8} (h : tagsB (c :: r) = true) : stripP (c :: r) = (tagP (c :: r)).1 ++ stripP (tagP (c :: r)).2 := by
 have h1 := (tag_rest c r).1
 unfold stripP
 rw [List.length_cons]
 conv => lhs; unfold stripF
 rw [if_pos h, stripF_fuel r.length (tagP (c :: r)).2.length _ (by omega) (Nat.le_refl _)]
theorem stripP_ent {c : UInt8} {r a b : List UInt8} (h : tagsB (c :: r) = false) (hc : c = 38) (he : entP (c :: r) = some (a, b)) : stripP (c :: r) = a ++ stripP b := by
 have h1 := (ent_rest he).1
 unfold stripP
 rw [List.length_cons]
 conv => lhs; unfold stripF
 rw [if_neg (by rw [h]; decide), if_pos hc, he]
 dsimp only
 rw [stripF_fuel r.length b.length _ (by omega) (Nat.le_refl _)]
theorem stripP_byte {c : UInt8} {r : List UInt8} (h : tagsB (c :: r) = false) (hc : c = 38 → entP (c :: r) = none) : stripP (c :: r) = c :: stripP r := by
 unfold stripP
 rw [List.length_cons]
 conv => lhs; unfold stripF
 rw [if_neg (by rw [h]; decide)]
 by_cases e : c = 38
 ·rw [if_pos e, hc e]
 ·rw [if_neg e]
structure StRel (w : World) (l r : List UInt8) (wr : World) : Prop where
 ex : ∃ acc, Bld wr w.heap.size w.heap.size acc ∧ acc ++ stripP r = stripP l ∧ acc.length + 4 * r.length ≤ 4 * l.length
 bel : Below w.heap.size w wr
set_option maxRecDepth 100000 in
set_option maxHeartbeats 4000000 in
theorem strip_any (l : List UInt8) (w : World) (hl : l.length ≤ 100000000) (hT : Tabs w) (hE : EntM w) :
  Calls Tryz.prog 21 #[.string (ba l)] w (StrB w (stripP l)) := by
 have HB0 := Lib.hid (bld_new w)
 have HL := Lib.hid hl
 have HT := Lib.hid hT
 have HE := Lib.hid hE
 obtain ⟨L, hL⟩ : ∃ L, l = L := ⟨_, rfl⟩
 have HREL := Lib.hid (show ∀ wr, wr = w.alloc (.cells #[.pointer none, .slice none 0 0] 64) → StRel w l l wr from by
  rintro wr rfl
  exact ⟨⟨[], HB0.out, rfl, by simp⟩, (Below.refl _ _).alloc (Nat.le_refl _) _⟩)
 clear hl hT hE
 rw [hL]
 rw [hL] at HREL HL
 clear hL HB0
 go_enter Tryz.func21, Tryz.ntmps21
 go_wp2
 go_loopw [0, 4, 5, 6, 7, 8] (fun s a b c d e wr => ∃ (r : List UInt8) (y z u v x : Value), a = y ∧ b = z ∧ c = u ∧ d = v ∧ e = x ∧ s = .string (ba r) ∧ Hid (StRel w L r wr)) (fun s _ _ _ _ _ _ => Lib.strSize s)
 case atStart => exact ⟨L, _, _, _, _, _, rfl, rfl, rfl, rfl, rfl, rfl, Lib.hid (HREL.out _ rfl)⟩
 case round =>
  obtain ⟨r, y, z, u, v, x, rfl, rfl, rfl, rfl, rfl, rfl, HR⟩ := hrel
  obtain ⟨acc, hbld, heq, hal⟩ := HR.out.ex
  have HBL := Lib.hid hbld
  have HEQ := Lib.hid heq
  have HBE := Lib.hid HR.out.bel
  have hszr := HR.out.bel.size
  have HAL := Lib.hid hal
  have HTR := Lib.hid (HT.out.below HBE.out)
  have HER := Lib.hid (HE.out.below HBE.out)
  clear hbld heq hal HR
  cases r with
  | nil =>
   have g1 : (ba ([] : List UInt8)).toList.isEmpty = true := by rw [ba_toList]; rfl
   have HF := Lib.hid (show acc = stripP L by rw [← HEQ.out, stripP_nil, List.append_nil])
   go_wp2_with fail
   refine (bld_string _ _ _ wr HBL.out hszr).mono ?_
   rintro e w2 ⟨rfl, hW⟩
   have HW := Lib.hid hW
   clear hW
   go_wp2
   go_ret
   exact str_fin (by rw [HF.out]) (HBE.out.trans HW.out.bel)
  | cons c r =>
   have g1 : (ba (c :: r)).toList.isEmpty = false := by rw [ba_toList]; rfl
   have HRL := Lib.hid (show r.length + 1 ≤ 100000000 by have := HAL.out; have := HL.out; rw [List.length_cons] at *; omega)
   have HTA := Lib.hid (tags_any (c :: r) wr (by rw [List.length_cons]; have := HRL.out; omega))
   have hx1 : (ba (c :: r)).extract 1 (ba (c :: r)).size = ba r := ba_drop _ _
   have h1i : (1 : Int) ≤ ((ba (c :: r)).size : Int) := by rw [ba_size]; simp; omega
   have HZ0 := Lib.hid (show (ba (c :: r)).size = r.length + 1 by rw [ba_size]; rfl)
   have HZR := Lib.hid (show (ba r).size = r.length by rw [ba_size])
   obtain ⟨X, hX⟩ : ∃ X : Int, (c.toNat : Int) = X := ⟨_, rfl⟩
   have HX := Lib.hid hX
   have hgi : ∃ h : 0 < (ba (c :: r)).size, (((ba (c :: r))[0]'h).toNat : Int) = X := ⟨by rw [ba_size]; simp, hX⟩
   cases htg : tagsB (c :: r) with
   | true =>
    rw [htg] at HTA
    have HS1 := Lib.hid (stripP_tag htg)
    have HTG := Lib.hid (tag_any c r wr (by rw [List.length_cons]; exact HRL.out) HTR.out)
    unfold TgPost at HTG
    have htr := tag_rest c r
    obtain ⟨⟨a, b⟩, hq⟩ : ∃ q, tagP (c :: r) = q := ⟨_, rfl⟩
    rw [hq] at HS1 HTG htr
    dsimp only at HS1 HTG htr
    have HTL := Lib.hid htr
    have HZB := Lib.hid (show (ba b).size = b.length by rw [ba_size])
    obtain ⟨s, hs⟩ : ∃ s, ba (c :: r) = s := ⟨_, rfl⟩
    rw [hs] at g1 HTA HTG HZ0
    rw [hs]
    clear htg hq htr hs hx1 h1i hgi hX
    go_wp2_with fail
    refine HTA.out.mono ?_
    rintro e w2 ⟨rfl, hw⟩
    have hw2 := hw.symm
    subst hw2
    clear hw
    go_wp2_with fail
    refine HTG.out.mono ?_
    rintro e w3 ⟨rfl, hb3⟩
    have HB3 := Lib.hid (HBE.out.trans (hb3.mono hszr))
    have HWS := Lib.hid (write_string _ _ acc a w3 (HBL.out.below hb3) (by have := HAL.out; have := HL.out; have := HTL.out.2; omega) HB3.out.size)
    clear hb3
    go_wp2_with fail
    refine HWS.out.mono ?_
    rintro e w4 ⟨rfl, hW⟩
    have HN := Lib.hid (show StRel w L b w4 from ⟨⟨acc ++ a, hW.bld, by rw [List.append_assoc, ← HS1.out]; exact HEQ.out, by have := HAL.out; have := HTL.out; rw [List.length_append]; rw [List.length_cons] at *; omega⟩, HB3.out.trans hW.bel⟩)
    clear hW
    go_wp2
    go_roundw
    case rel => exact ⟨b, _, _, _, _, _, rfl, rfl, rfl, rfl, rfl, rfl, HN⟩
    case measure => rw [Lib.strSize_string, Lib.strSize_string, HZ0.out, HZB.out]; have := HTL.out.1; omega
   | false =>
    rw [htg] at HTA
    by_cases h38 : X = 38
    ·have k38 : (X == 38) = true := by rw [h38]; rfl
     have hc : c = 38 := UInt8.toNat_inj.1 (by have : (38 : UInt8).toNat = 38 := rfl; omega)
     have HEN := Lib.hid (entity_any c r wr (by have := HRL.out; omega) HTR.out HER.out)
     unfold EnPost at HEN
     cases hen : entP (c :: r) with
     | some q =>
      obtain ⟨a, b⟩ := q
      have HS1 := Lib.hid (stripP_ent htg hc hen)
      have HTL := Lib.hid (ent_rest hen)
      rw [hen] at HEN
      simp only [Option.getD_some, Option.isSome_some] at HEN
      have HZB := Lib.hid (show (ba b).size = b.length by rw [ba_size])
      obtain ⟨s, hs⟩ : ∃ s, ba (c :: r) = s := ⟨_, rfl⟩
      rw [hs] at g1 HTA HEN HZ0 hgi
      rw [hs]
      clear htg hen hs hx1 h1i hX hc h38
      obtain ⟨hz0, hgj⟩ := hgi
      go_wp2_with fail
      refine HTA.out.mono ?_
      rintro e w2 ⟨rfl, hw⟩
      have hw2 := hw.symm
      subst hw2
      clear hw
      go_wp2_with fail
      refine HEN.out.mono ?_
      rintro e w3 ⟨rfl, hb3⟩
      have HB3 := Lib.hid (HBE.out.trans (hb3.mono hszr))
      have HWS := Lib.hid (write_string _ _ acc a w3 (HBL.out.below hb3) (by have := HAL.out; have := HL.out; have := HTL.out.2; omega) HB3.out.size)
      clear hb3
      go_wp2_with fail
      refine HWS.out.mono ?_
      rintro e w4 ⟨rfl, hW⟩
      have HN := Lib.hid (show StRel w L b w4 from ⟨⟨acc ++ a, hW.bld, by rw [List.append_assoc, ← HS1.out]; exact HEQ.out, by have := HAL.out; have := HTL.out; rw [List.length_append]; rw [List.length_cons] at *; omega⟩, HB3.out.trans hW.bel⟩)
      clear hW
      go_wp2
      go_roundw
      case rel => exact ⟨b, _, _, _, _, _, rfl, rfl, rfl, rfl, rfl, rfl, HN⟩
      case measure => rw [Lib.strSize_string, Lib.strSize_string, HZ0.out, HZB.out]; have := HTL.out.1; omega
     | none =>
      have HS1 := Lib.hid (stripP_byte htg fun _ => hen)
      rw [hen] at HEN
      simp only [Option.getD_none, Option.isSome_none] at HEN
      obtain ⟨s, hs⟩ : ∃ s, ba (c :: r) = s := ⟨_, rfl⟩
      rw [hs] at g1 HTA HEN HZ0 hgi hx1 h1i
      rw [hs]
      clear htg hen hs hX hc h38
      obtain ⟨hz0, hgj⟩ := hgi
      go_wp2_with fail
      refine HTA.out.mono ?_
      rintro e w2 ⟨rfl, hw⟩
      have hw2 := hw.symm
      subst hw2
      clear hw
      go_wp2_with fail
      refine HEN.out.mono ?_
      rintro e w3 ⟨rfl, hb3⟩
      have HB3 := Lib.hid (HBE.out.trans (hb3.mono hszr))
      have HWB := Lib.hid (wb_int _ _ acc X c w3 HX.out (HBL.out.below hb3) (by have := HAL.out; have := HL.out; omega) HB3.out.size)
      clear hb3
      go_wp2_with fail
      refine HWB.out.mono ?_
      rintro e w4 ⟨rfl, hW⟩
      have HN := Lib.hid (show StRel w L r w4 from ⟨⟨acc ++ [c], hW.bld, by rw [← HEQ.out, HS1.out]; simp, by have := HAL.out; rw [List.length_append]; simp at this ⊢; omega⟩, HB3.out.trans hW.bel⟩)
      clear hW
      go_wp2
      go_roundw
      case rel => exact ⟨r, _, _, _, _, _, rfl, rfl, rfl, rfl, rfl, rfl, HN⟩
      case measure => rw [Lib.strSize_string, Lib.strSize_string, HZ0.out, HZR.out]; omega
    ·have k38 : (X == 38) = false := by simpa using h38
     have HS1 := Lib.hid (stripP_byte htg fun h => absurd (show X = 38 by rw [← hX, h]; rfl) h38)
     obtain ⟨s, hs⟩ : ∃ s, ba (c :: r) = s := ⟨_, rfl⟩
     rw [hs] at g1 HTA HZ0 hgi hx1 h1i
     rw [hs]
     clear htg hs hX h38
     obtain ⟨hz0, hgj⟩ := hgi
     have HWB := Lib.hid (wb_int _ _ acc X c wr HX.out HBL.out (by have := HAL.out; have := HL.out; omega) hszr)
     go_wp2_with fail
     refine HTA.out.mono ?_
     rintro e w2 ⟨rfl, hw⟩
     have hw2 := hw.symm
     subst hw2
     clear hw
     go_wp2_with fail
     refine HWB.out.mono ?_
     rintro e w4 ⟨rfl, hW⟩
     have HN := Lib.hid (show StRel w L r w4 from ⟨⟨acc ++ [c], hW.bld, by rw [← HEQ.out, HS1.out]; simp, by have := HAL.out; rw [List.length_append]; simp at this ⊢; omega⟩, HBE.out.trans hW.bel⟩)
     clear hW
     go_wp2
     go_roundw
     case rel => exact ⟨r, _, _, _, _, _, rfl, rfl, rfl, rfl, rfl, rfl, HN⟩
     case measure => rw [Lib.strSize_string, Lib.strSize_string, HZ0.out, HZR.out]; omega
end Go.Proofs.YthidbmeaccpjdaaGreatDoor
end
section
namespace Go.Proofs.YthidbmeaccpjdaaGreatDoor
open Go.RowKit
set_option linter.unusedVariables false
theorem bodyOf_len (s : List UInt8) (p : Prt) : (bodyOf s p).length ≤ s.length := by
 unfold bodyOf
 split
 ·rw [List.length_drop, List.length_take]; omega
 ·exact Nat.zero_le _
theorem bytesP_len (s : List UInt8) (p : Prt) : (bytesP s p).length ≤ s.length := by
 have h0 := bodyOf_len s p
 have h1 := unb64P_len (bodyOf s p)
 have h2 := unqpP_len (bodyOf s p)
 unfold bytesP
 split
 ·omega
 ·split <;> omega
set_option maxRecDepth 100000 in
set_option maxHeartbeats 4000000 in
theorem bytes_any (s : List UInt8) (p : Prt) (A : Option Addr) (n c : Nat) (w : World) (hs : s.length ≤ 1000000000) (hT : Tabs w) :
  Calls Tryz.prog 13 #[.string (ba s), prtV p A n c] w (StrB w (bytesP s p)) := by
 have HT := Lib.hid hT
 have HBO := Lib.hid (fun W => body_any s p A n c W hs)
 have hbl : (bodyOf s p).length ≤ 1000000000 := Nat.le_trans (bodyOf_len s p) hs
 have HV := Lib.hid (show bytesP s p = if p.code = wB64 then unb64P (bodyOf s p) else if p.code = wQp then unqpP (bodyOf s p) else bodyOf s p from rfl)
 obtain ⟨b, hb⟩ : ∃ b, bodyOf s p = b := ⟨_, rfl⟩
 simp only [hb] at HBO
 rw [hb] at HV hbl
 clear hb
 obtain ⟨R, hR⟩ : ∃ R, bytesP s p = R := ⟨_, rfl⟩
 rw [hR] at HV ⊢
 clear hR
 have HU := Lib.hid (fun W (hW : Below w.heap.size w W) => unb64_any b W hbl (HT.out.below hW))
 have HQ := Lib.hid (fun W (hW : Below w.heap.size w W) => unqp_any b W hbl (HT.out.below hW))
 obtain ⟨p0, p1, p2, p3, p4, ⟨p5, p6, p7⟩, p8⟩ := p
 unfold prtV at HBO ⊢
 unfold StrB at HBO HU HQ
 dsimp only at HBO HV ⊢
 have HBW := Lib.hid (show Below w.heap.size w (w.alloc (.cells #[.int .i64 p0, .int .i64 p1, .int .i64 p2, .int .i64 p3, .int .i64 p4, .string (ba p5), .string (ba p6), .slice A n c, .string (ba p8)] 26)) from (Below.refl _ _).alloc (Nat.le_refl _) _)
 have hbx := (MapKept.heap_alloc w (.cells #[.int .i64 p0, .int .i64 p1, .int .i64 p2, .int .i64 p3, .int .i64 p4, .string (ba p5), .string (ba p6), .slice A n c, .string (ba p8)] 26)).1
 have HBX := Lib.hid hbx
 clear hbx hT
 go_enter Tryz.func13, Tryz.ntmps13
 go_wp2_with fail
 refine (HBO.out _).mono ?_
 rintro e w2 ⟨rfl, hb2⟩
 have c8 := cells_at ((hb2.block _ (heap_lt HBX.out)).trans HBX.out) 8 (u := .string (ba p8)) rfl
 have HB2 := Lib.hid (HBW.out.trans (hb2.mono HBW.out.size))
 clear hb2
 by_cases h64 : p8 = wB64
 ·have g64 : ((ba p8).toList == [98, 97, 115, 101, 54, 52]) = true := by rw [ba_toList, h64]; rfl
  rw [if_pos h64] at HV
  clear h64
  go_wp2_with fail
  refine (HU.out _ HB2.out).mono ?_
  rintro e w3 ⟨rfl, hb3⟩
  have HB3 := Lib.hid (HB2.out.trans (hb3.mono HB2.out.size))
  clear hb3
  go_wp2
  go_ret
  exact ⟨by rw [HV.out]; rfl, HB3.out⟩
 ·have g64 : ((ba p8).toList == [98, 97, 115, 101, 54, 52]) = false := by rw [ba_toList]; show (p8 == wB64) = false; simpa using h64
  rw [if_neg h64] at HV
  clear h64
  by_cases hq : p8 = wQp
  ·have gq : ((ba p8).toList == [113, 117, 111, 116, 101, 100, 45, 112, 114, 105, 110, 116, 97, 98, 108, 101]) = true := by rw [ba_toList, hq]; rfl
   rw [if_pos hq] at HV
   clear hq
   go_wp2_with fail
   refine (HQ.out _ HB2.out).mono ?_
   rintro e w3 ⟨rfl, hb3⟩
   have HB3 := Lib.hid (HB2.out.trans (hb3.mono HB2.out.size))
   clear hb3
   go_wp2
   go_ret
   exact ⟨by rw [HV.out]; rfl, HB3.out⟩
  ·have gq : ((ba p8).toList == [113, 117, 111, 116, 101, 100, 45, 112, 114, 105, 110, 116, 97, 98, 108, 101]) = false := by rw [ba_toList]; show (p8 == wQp) = false; simpa using hq
   rw [if_neg hq] at HV
   clear hq
   go_wp2
   go_ret
   exact ⟨by rw [HV.out]; rfl, HB2.out⟩
end Go.Proofs.YthidbmeaccpjdaaGreatDoor
end
section
namespace Go.Proofs.YthidbmeaccpjdaaGreatDoor
open Go.RowKit
set_option linter.unusedVariables false
theorem openM_pre (s : List UInt8) : ∀ (f : Nat) (st : List Prt × Nat) (p : Prt), ∃ t, (openM s f st p).1 = st.1 ++ t
 | 0, st, p => ⟨[], by rw [List.append_nil]; rfl⟩
 | f + 1, st, p => by
  rw [openM_succ]
  split
  ·exact ⟨[p], rfl⟩
  ·have key : ∀ (l : List (Nat × Nat)) (st2 : List Prt × Nat), ∃ t, (openL s f st.1.length (p.depth + 1) (digestB p) l st2).1 = st2.1 ++ t := by
    intro l
    induction l with
    | nil => exact fun st2 => ⟨[], by rw [List.append_nil]; rfl⟩
    | cons k r ih =>
     intro st2
     obtain ⟨t1, h1⟩ := openM_pre s f st2 (readPt s st.1.length (p.depth + 1) k.1 k.2 (digestB p))
     obtain ⟨t2, h2⟩ := ih (openM s f st2 (readPt s st.1.length (p.depth + 1) k.1 k.2 (digestB p)))
     refine ⟨t1 ++ t2, ?_⟩
     rw [← List.append_assoc, ← h1, ← h2]
     rfl
   obtain ⟨t, ht⟩ := key (innerP s p) (st.1 ++ [p], st.2 + (innerP s p).length)
   exact ⟨[p] ++ t, by rw [ht, List.append_assoc]⟩
theorem parts_head (s : List UInt8) : ∃ t, partsP s = readPt s (-1) 0 0 s.length false :: t := by
 unfold partsP
 rw [openM_succ]
 split
 ·exact ⟨[], rfl⟩
 ·have key : ∀ (l : List (Nat × Nat)) (u d : Int) (dg : Bool) (st2 : List Prt × Nat), ∃ t, (openL s 8 u d dg l st2).1 = st2.1 ++ t := by
   intro l
   induction l with
   | nil => exact fun _ _ _ st2 => ⟨[], by rw [List.append_nil]; rfl⟩
   | cons k r ih =>
    intro u d dg st2
    obtain ⟨t1, h1⟩ := openM_pre s 8 st2 (readPt s u d k.1 k.2 dg)
    obtain ⟨t2, h2⟩ := ih u d dg (openM s 8 st2 (readPt s u d k.1 k.2 dg))
    refine ⟨t1 ++ t2, ?_⟩
    rw [← List.append_assoc, ← h1, ← h2]
    rfl
  obtain ⟨t, ht⟩ := key (innerP s (readPt s (-1) 0 0 s.length false)) 0 (0 + 1) (digestB (readPt s (-1) 0 0 s.length false)) ([] ++ [readPt s (-1) 0 0 s.length false], 1 + (innerP s (readPt s (-1) 0 0 s.length false)).length)
  exact ⟨t, ht⟩
structure HeadSays (C : List UInt8) (k : Typ) (co : List UInt8) : Prop where
 shut : shutF C.length C = true
 len : (headP C).2 = C.length
 kind : kindP14 (headP C).1 false = k
 code : codeP ((getP (headP C).1 cteName).getD []) = co
variable {C X co : List UInt8} {k : Typ}
theorem HeadSays.read (h : HeadSays C k co) : readPt (C ++ X) (-1) 0 0 (C ++ X).length false = ⟨-1, 0, 0, (C.length : Nat), ((C ++ X).length : Nat), k, co⟩ := by
 unfold readPt
 rw [List.take_length, List.drop_zero, (head_pre _ C X h.shut).1]
 dsimp only
 rw [h.len, h.kind, h.code, Nat.zero_add]
 rfl
theorem HeadSays.fits (h : HeadSays C k co) : fitsP (C ++ X).length ⟨-1, 0, 0, (C.length : Nat), ((C ++ X).length : Nat), k, co⟩ = true := by
 unfold fitsP
 rw [decide_eq_true_iff, List.length_append]
 exact ⟨Int.le_refl _, by show (0 : Int) ≤ (C.length : Nat); omega, by show ((C.length : Nat) : Int) ≤ ((C.length + X.length : Nat) : Int); omega, by show (((C.length + X.length : Nat) : Int)) ≤ _; omega⟩
theorem HeadSays.body (h : HeadSays C k co) : bodyOf (C ++ X) ⟨-1, 0, 0, (C.length : Nat), ((C ++ X).length : Nat), k, co⟩ = X := by
 unfold bodyOf
 rw [if_pos h.fits]
 show List.drop (Int.toNat (C.length : Nat)) (List.take (Int.toNat ((C ++ X).length : Nat)) (C ++ X)) = X
 rw [Int.toNat_natCast, Int.toNat_natCast, List.take_length, List.drop_left]
theorem HeadSays.head (h : HeadSays C k co) : headOf (C ++ X) ⟨-1, 0, 0, (C.length : Nat), ((C ++ X).length : Nat), k, co⟩ = (headP C).1 := by
 unfold headOf
 rw [if_pos h.fits]
 show (headP (List.drop (Int.toNat (0 : Int)) (List.take (Int.toNat ((C ++ X).length : Nat)) (C ++ X)))).1 = _
 rw [Int.toNat_natCast, List.take_length]
 show (headP (C ++ X)).1 = _
 rw [(head_pre _ C X h.shut).1]
end Go.Proofs.YthidbmeaccpjdaaGreatDoor
end
section
namespace Go.Proofs.YthidbmeaccpjdaaGreatDoor
open Go.RowKit
set_option linter.unusedVariables false
def WhPost (w : World) (P : Prt) (e : Ending) (w' : World) : Prop := ∃ A n c, e = .returned (.tuple #[prtV P A n c, .bool true]) ∧ Pars w' w'.heap.size A n P.typ.params ∧ Below w.heap.size w w'
set_option maxRecDepth 100000 in
set_option maxHeartbeats 4000000 in
theorem whole_any (s : List UInt8) (P : Prt) (w : World) (hs : s.length ≤ 10000000) (hT : Tabs w) (hP : readPt s (-1) 0 0 s.length false = P) :
  Calls Tryz.prog 24 #[.string (ba s)] w (WhPost w P) := by
 obtain ⟨t, ht⟩ := parts_head s
 rw [hP] at ht
 have HB0 := Lib.hid (show Below w.heap.size w (w.alloc (.cells #[.int .i64 0, .int .i64 0, .int .i64 0, .int .i64 0, .int .i64 0, .string ⟨#[]⟩, .string ⟨#[]⟩, .slice none 0 0, .string ⟨#[]⟩] 26)) from (Below.refl _ _).alloc (Nat.le_refl _) _)
 have HPA := Lib.hid (parse14_any s (w.alloc (.cells #[.int .i64 0, .int .i64 0, .int .i64 0, .int .i64 0, .int .i64 0, .string ⟨#[]⟩, .string ⟨#[]⟩, .slice none 0 0, .string ⟨#[]⟩] 26)) hs (hT.below HB0.out))
 rw [ht] at HPA
 unfold PartsPost at HPA
 have hz := (MapKept.heap_alloc w (.cells #[.int .i64 0, .int .i64 0, .int .i64 0, .int .i64 0, .int .i64 0, .string ⟨#[]⟩, .string ⟨#[]⟩, .slice none 0 0, .string ⟨#[]⟩] 26)).1
 have HZ := Lib.hid hz
 clear ht hP hT hz
 go_enter Tryz.func24, Tryz.ntmps24
 go_wp2_with fail
 refine HPA.out.mono ?_
 rintro e w2 ⟨v, l, rfl, ho, hl, hd, hb⟩
 cases l with
 | nil => cases hl
 | cons q r =>
  obtain ⟨p, A7, m7, c7⟩ := q
  rw [List.map_cons] at hl
  injection hl with hl1 hl2
  dsimp only at hl1
  subst hl1
  obtain ⟨hd0, hd1⟩ := hd _ (List.mem_cons_self ..)
  have HD0 := Lib.hid hd0
  have HD1 := Lib.hid hd1
  have HB2 := Lib.hid (HB0.out.trans (hb.mono HB0.out.size))
  have HZ2 := Lib.hid ((hb.block _ (heap_lt HZ.out)).trans HZ.out)
  obtain ⟨A, c, rfl, -, -, hF⟩ := ho.reads
  obtain ⟨K, hK⟩ : ∃ K, (List.map rawQ ((p, A7, m7, c7) :: r)).length = K := ⟨_, rfl⟩
  have hK1 : 0 < K := by rw [← hK]; simp
  have hx := hF.2 0 (by simp)
  obtain ⟨ad, rfl, hlt, x0, x1, x2, x3, x4, x5, x6, x7, x8, -⟩ := hx
  rw [show ad.add (0 * 9) = ad by simp [Addr.add]] at x0 x1 x2 x3 x4 x5 x6 x7 x8
  simp only [List.map_cons, List.getElem_cons_zero, rawQ, rawP] at x0 x1 x2 x3 x4 x5 x6 x7 x8
  rw [hK]
  have hKI : (0 : Int) < (K : Int) := by omega
  have hK0 : ¬ (K : Int) = 0 := by omega
  have p0 := cells_at HZ2.out 0 (u := .int .i64 0) rfl
  have p1 := cells_at HZ2.out 1 (u := .int .i64 0) rfl
  have p2 := cells_at HZ2.out 2 (u := .int .i64 0) rfl
  have p3 := cells_at HZ2.out 3 (u := .int .i64 0) rfl
  have p4 := cells_at HZ2.out 4 (u := .int .i64 0) rfl
  have p5 := cells_at HZ2.out 5 (u := .string ⟨#[]⟩) rfl
  have p6 := cells_at HZ2.out 6 (u := .string ⟨#[]⟩) rfl
  have p7 := cells_at HZ2.out 7 (u := .slice none 0 0) rfl
  have p8 := cells_at HZ2.out 8 (u := .string ⟨#[]⟩) rfl
  have qq := fun i => cells_free HZ2.out i
  have q0 := qq 0
  have q1 := qq 1
  have q2 := qq 2
  have q3 := qq 3
  have q4 := qq 4
  have q5 := qq 5
  have q6 := qq 6
  have q7 := qq 7
  have q8 := qq 8
  have HNE := Lib.hid (show ∀ ad, A7 = some ad → ad.block ≠ w.heap.size from fun ad e h => by
   have := HD1.out ad e
   rw [World.size_alloc] at this
   omega)
  clear qq ho hl2 hd hd0 hd1 hb hF hlt hK
  go_wp2
  refine bodyPost_ret (v := .tuple #[prtV p A7 m7 c7, .bool true]) (by simp [prtV, results, Tryz.results24, go_sem, p0, p1, p2, p3, p4, p5, p6, p7, p8]; try rfl) rfl ?_
  refine ⟨A7, m7, c7, rfl, ?_, ?_⟩
  ·refine (HD0.out.keepB fun ad e hl => ?_).more (by simp only [World.size_setCell]; exact Nat.le_refl _)
   have hne := HNE.out ad e
   iterate 9 (refine (heap_setCell_other _ _ _ _ hne).trans ?_)
   rfl
  ·iterate 9 (refine Below.setCell ?_ (by exact Nat.le_refl _) _)
   exact HB2.out
end Go.Proofs.YthidbmeaccpjdaaGreatDoor
end
section
namespace Go.Proofs.YthidbmeaccpjdaaGreatDoor
open Go.RowKit
set_option linter.unusedVariables false
theorem restG_lenN {N : Nat} {ones : List One1} (h : ∀ x ∈ ones, x.value.length ≤ N ∧ x.at_.name.length ≤ N) (name : List UInt8) : ∀ (f : Nat) (k : Int), (restG ones name f k).length ≤ f * N
 | 0, k => by simp [restG]
 | f + 1, k => by
  unfold restG
  rw [Nat.succ_mul]
  split
  ·simp
  ·rename_i x hx
   have h1 := (h x (first_mem hx)).1
   have h2 := restG_lenN h name f (k + 1)
   have h3 := openP_len _ x.value (Nat.le_refl _)
   rw [List.length_append]
   split <;> omega
theorem valueP_lenN {N : Nat} {ones : List One1} (h : ∀ x ∈ ones, x.value.length ≤ N ∧ x.at_.name.length ≤ N) (name : List UInt8) {v : List UInt8} (hv : valueP ones name = some v) : v.length ≤ 256 * N := by
 unfold valueP at hv
 split at hv
 ·split at hv
  ·rename_i x hx
   injection hv with hv
   rw [← hv]
   have h1 := (h x (List.mem_of_find?_eq_some hx)).1
   have h2 := splitP_len x.value
   have h3 := openP_len _ (splitP x.value).2 (Nat.le_refl _)
   have h4 := meantP_len (splitP x.value).1 (openP (splitP x.value).2)
   omega
  ·obtain ⟨x, hx, rfl⟩ := Option.map_eq_some_iff.1 hv
   have h1 := (h x (first_mem hx)).1
   omega
 ·rename_i x hx
  have h1 := (h x (first_mem hx)).1
  have h2 := splitP_len x.value
  have h3 := openP_len _ (splitP x.value).2 (Nat.le_refl _)
  have h5 := restG_lenN h name 63 1
  split at hv
  ·injection hv with hv
   rw [← hv]
   have h4 := meantP_len (splitP x.value).1 (openP (splitP x.value).2 ++ restG ones name 63 1)
   rw [List.length_append] at h4
   omega
  ·injection hv with hv
   rw [← hv, List.length_append]
   omega
theorem onesP_lenN {N : Nat} {rs : List (List Tok)} (h : ∀ r ∈ rs, (joinP r).length ≤ N) : ∀ x ∈ onesP rs, x.value.length ≤ N ∧ x.at_.name.length ≤ N := by
 intro o ho
 unfold onesP at ho
 obtain ⟨q, hq, he⟩ := List.mem_filterMap.1 ho
 obtain ⟨r, hr, rfl⟩ := List.mem_map.1 hq
 split at he
 ·cases he
 ·injection he with he
  subst he
  have h1 := pairP_len r
  have h2 := h r hr
  have h3 := whereP_len (pairP r).1
  exact ⟨by show (pairP r).2.length ≤ _; omega, by show (whereP (pairP r).1).name.length ≤ _; omega⟩
theorem params_lenN {N : Nat} {rs : List (List Tok)} (h : ∀ r ∈ rs, (joinP r).length ≤ N) : (paramsP rs).length ≤ rs.length ∧ ∀ p ∈ paramsP rs, p.1.length ≤ N ∧ p.2.length ≤ 256 * N := by
 have h2 := onesP_len rs
 constructor
 ·unfold paramsP
  refine Nat.le_trans (List.length_filterMap_le _ _) ?_
  have h1 := namesP_len (onesP rs) []
  simp only [List.length_nil] at h1
  unfold namesP
  omega
 ·intro p hp
  unfold paramsP at hp
  obtain ⟨n, hn, he⟩ := List.mem_filterMap.1 hp
  obtain ⟨v, hv, rfl⟩ := Option.map_eq_some_iff.1 he
  refine ⟨?_, valueP_lenN (onesP_lenN h) n hv⟩
  rcases namesP_mem (onesP rs) [] n hn with h2 | ⟨o, ho, rfl⟩
  ·cases h2
  ·exact (onesP_lenN h o ho).2
theorem typ_lenN (l : List UInt8) : (parseT l).1.params.length ≤ l.length ∧ ∀ p ∈ (parseT l).1.params, p.1.length ≤ l.length ∧ p.2.length ≤ 256 * l.length := by
 have h := tokRows_ok l
 have h3 : ((tokRows l).drop 1).length ≤ l.length := by rw [List.length_drop]; have := h.2; omega
 have h1 := params_lenN (rs := (tokRows l).drop 1) (fun r hr => (h.1 r (List.mem_of_mem_drop hr)).1)
 unfold parseT
 split
 ·exact ⟨Nat.zero_le _, fun p hp => by cases hp⟩
 ·split
  ·exact ⟨by have := h1.1; show (paramsP _).length ≤ _; omega, h1.2⟩
  ·exact ⟨Nat.zero_le _, fun p hp => by cases hp⟩
theorem disp_lenN (l : List UInt8) : (dispT l).2.length ≤ l.length ∧ ∀ p ∈ (dispT l).2, p.1.length ≤ l.length ∧ p.2.length ≤ 256 * l.length := by
 have h := tokRows_ok l
 have h3 : ((tokRows l).drop 1).length ≤ l.length := by rw [List.length_drop]; have := h.2; omega
 have h1 := params_lenN (rs := (tokRows l).drop 1) (fun r hr => (h.1 r (List.mem_of_mem_drop hr)).1)
 exact ⟨by have := h1.1; show (paramsP _).length ≤ _; omega, h1.2⟩
theorem paramT_lenN {ps : List (List UInt8 × List UInt8)} {n : List UInt8} {N : Nat} (h : ∀ q ∈ ps, q.2.length ≤ N) : ((paramT ps n).getD []).length ≤ N := by
 unfold paramT
 cases hf : ps.find? fun p => decide (smallP p.1 = smallP n) with
 | none => exact Nat.zero_le _
 | some x => exact h x (List.mem_of_find?_eq_some hf)
end Go.Proofs.YthidbmeaccpjdaaGreatDoor
end
