/- Layer 15: the contract of entity (printed by gen_decd. -/
import Derived.Test.YthidbmeaccpjdaaGreatDoorM25
import Derived.Test.YthidbmeaccpjdaaGreatDoorM12
import Derived.Test.YthidbmeaccpjdaaGreatDoorM14
namespace Go.Proofs.YthidbmeaccpjdaaGreatDoor
open Go.RowKit
set_option linter.unusedVariables false
set_option maxHeartbeats 4000000
theorem rune_big (n : Int) (w : World) (h : 1114111 < n) : Calls Tryz.prog 118 #[.int .i64 n] w fun e w' => e = .returned (.string (ba (Lib.encodeRune 65533))) ∧ w' = w := by
 have g1 : decide (n < 0) = false := decide_eq_false (by omega)
 have g2 : decide (1114111 < n) = true := decide_eq_true h
 go_enter Tryz.func118, Tryz.ntmps118
 go_wp2
 go_ret
 exact ⟨by kernel_rfl, rfl⟩
theorem runeC_any (n : Nat) (w : World) : Calls Tryz.prog 118 #[.int .i64 (n : Int)] w fun e w' => e = .returned (.string (ba (runeC n))) ∧ w' = w := by
 unfold runeC
 by_cases h : 1114111 < n
 ·rw [if_pos h]
  exact rune_big _ w (by omega)
 ·rw [if_neg h]
  exact rune_any _ w (by omega) (by omega)
def entR (name : List UInt8) : Option Int := (entNames.find? fun q => decide (q.1 = name)).map fun q => (q.2 : Int)
theorem entR_bd {name : List UInt8} {r : Int} (h : entR name = some r) : 0 ≤ r ∧ r ≤ 127 ∧ entV name = some (Lib.encodeRune r) := by
 unfold entR at h
 obtain ⟨q, hq, rfl⟩ := Option.map_eq_some_iff.1 h
 have hm := List.mem_of_find?_eq_some hq
 have hall : ∀ q ∈ entNames, q.2 ≤ 127 := by decide
 have := hall q hm
 refine ⟨by omega, by omega, ?_⟩
 unfold entV
 rw [hq]
theorem entR_none {name : List UInt8} (h : entR name = none) : (entNames.find? fun q => decide (q.1 = name)) = none := by
 unfold entR at h
 exact Option.map_eq_none_iff.1 h
theorem entV_not {name : List UInt8} (h : entR name = none) (hp : ([35] : List UInt8).isPrefixOf name = false) : entV name = none := by
 unfold entV
 rw [entR_none h]
 match name, hp with
 | [], _ => rfl
 | c :: t, hp =>
  have : c ≠ 35 := fun e => by subst e; simp [List.isPrefixOf] at hp
  show (if c = 35 then _ else none) = none
  rw [if_neg this]
def entNum : List UInt8 → Option (List UInt8)
 | x :: u => if x = 120 ∨ x = 88 then (numP u 16 6).map runeC else (numP (x :: u) 10 7).map runeC
 | [] => none
theorem entV_hash {t : List UInt8} (h : entR (35 :: t) = none) : entV (35 :: t) = entNum t := by
 unfold entV
 rw [entR_none h]
 show (if (35 : UInt8) = 35 then _ else none) = _
 rw [if_pos rfl]
 cases t <;> rfl
def EntM (w : World) : Prop := ∃ mb, w.cell? ⟨0, 0, none⟩ = some (.map (some mb)) ∧ 0 < w.heap.size ∧ ∀ w', Below w.heap.size w w' → ∀ name : List UInt8, name.length ≤ 1000000000 →
 (Instr.lookup 114 (.map (some mb)) (.string (ba name)) true).run Tryz.prog w' = .ok (.tuple #[.int .i32 ((entR name).getD 0), .bool (entR name).isSome]) w'
theorem EntM.below {w w' : World} (h : EntM w) (hb : Below w.heap.size w w') : EntM w' := by
 obtain ⟨mb, h1, h2, h3⟩ := h
 exact ⟨mb, (hb.cell (p := ⟨0, 0, none⟩) h2).trans h1, Nat.lt_of_lt_of_le h2 hb.size, fun w2 hb2 => h3 w2 (hb.trans (hb2.mono hb.size))⟩
def EnPost (w : World) (o : Option (List UInt8 × List UInt8)) (e : Ending) (w' : World) : Prop := e = .returned (.tuple #[.string (ba (o.getD ([], [])).1), .string (ba (o.getD ([], [])).2), .bool o.isSome]) ∧ Below w.heap.size w w'
theorem en_no {w w' : World} {o : Option (List UInt8 × List UInt8)} (h : o = none) (hb : Below w.heap.size w w') : EnPost w o (.returned (.tuple #[.string ⟨#[]⟩, .string ⟨#[]⟩, .bool false])) w' := by
 subst h
 exact ⟨rfl, hb⟩
theorem en_yes {w w' : World} {o : Option (List UInt8 × List UInt8)} {a b : List UInt8} {s : ByteArray} (h : o = some (a, b)) (hs : s = ba a) (hb : Below w.heap.size w w') : EnPost w o (.returned (.tuple #[.string s, .string (ba b), .bool true])) w' := by
 subst h hs
 exact ⟨rfl, hb⟩
set_option maxRecDepth 100000 in
theorem entity_any (c : UInt8) (t : List UInt8) (w : World) (hl : t.length ≤ 100000000) (hT : Tabs w) (hE : EntM w) :
  Calls Tryz.prog 55 #[.string (ba (c :: t))] w (EnPost w (entP (c :: t))) := by
 have HT := Lib.hid hT
 have hx1 : (ba (c :: t)).extract 1 (ba (c :: t)).size = ba t := ba_drop _ _
 have h1i : (1 : Int) ≤ ((ba (c :: t)).size : Int) := by rw [ba_size]; simp; omega
 have HCU := Lib.hid (cut_any 59 t w (by omega) hT)
 unfold CutPost at HCU
 have HEP := Lib.hid (show entP (c :: t) = match cutP 59 t with
  | none => none
  | some q => (entV q.1).map fun v => (v, q.2) from rfl)
 obtain ⟨o, ho⟩ : ∃ o, entP (c :: t) = o := ⟨_, rfl⟩
 rw [ho] at HEP ⊢
 obtain ⟨S, hS⟩ : ∃ S, ba (c :: t) = S := ⟨_, rfl⟩
 rw [hS] at hx1 h1i ⊢
 obtain ⟨mb, hm1, hm2, hm3⟩ := hE
 have HM := Lib.hid hm3
 clear ho hS hT hm3
 cases hcp : cutP 59 t with
 | none =>
  rw [hcp] at HEP
  have hcv : cutV 59 t = (t, [], false) := by unfold cutV; rw [hcp]
  rw [hcv] at HCU
  clear hcp hcv
  go_enter Tryz.func55, Tryz.ntmps55
  go_wp2_with fail
  refine HCU.out.mono ?_
  rintro e w2 ⟨rfl, nn, rfl⟩
  go_wp2
  go_ret3
  exact en_no HEP.out (below_drewN (Below.refl _ _) nn)
 | some q =>
  obtain ⟨n, r⟩ := q
  rw [hcp] at HEP
  have hcv : cutV 59 t = (n, r, true) := by unfold cutV; rw [hcp]
  rw [hcv] at HCU
  have hnl : n.length ≤ 100000000 := by have := (cutP_some hcp).1; rw [this] at hl; simp at hl; omega
  have HLK := Lib.hid (fun W hW => HM.out W hW n (by omega))
  have HC := Lib.hid (show ∀ W, Calls Tryz.prog 110 #[.string (ba n), .string ⟨#[35]⟩] W fun e w' => e = .returned (.tuple #[.string (ba (if ([35] : List UInt8).isPrefixOf n = true then n.drop 1 else n)), .bool (([35] : List UInt8).isPrefixOf n)]) ∧ w' = W from fun W => cutpre_any [35] n W)
  clear hcp hcv
  cases her : entR n with
  | some x =>
   obtain ⟨x0, x1, hv⟩ := entR_bd her
   have HF := Lib.hid (show o = some (Lib.encodeRune x, r) by rw [HEP.out]; show (entV n).map _ = _; rw [hv]; rfl)
   have HEN := Lib.hid (enc_eq x x0)
   simp only [her, Option.getD_some, Option.isSome_some] at HLK
   clear her hv HEP HC
   go_enter Tryz.func55, Tryz.ntmps55
   go_wp2_with fail
   refine HCU.out.mono ?_
   rintro e w2 ⟨rfl, nn, rfl⟩
   obtain ⟨w2, hw2⟩ : ∃ W, w.drewN nn = W := ⟨_, rfl⟩
   have HB2 := Lib.hid (show Below w.heap.size w w2 by rw [← hw2]; exact below_drewN (Below.refl _ _) nn)
   have hlk := HLK.out w2 HB2.out
   have hm3 := (HB2.out.cell (p := ⟨0, 0, none⟩) hm2).trans hm1
   rw [hw2]
   clear hw2
   go_wp2
   go_ret3
   exact en_yes HF.out (by rw [← HEN.out]) HB2.out
  | none =>
   simp only [her, Option.getD_none, Option.isSome_none] at HLK
   cases hp : ([35] : List UInt8).isPrefixOf n with
   | false =>
    have HF := Lib.hid (show o = none by rw [HEP.out]; show (entV n).map _ = _; rw [entV_not her hp]; rfl)
    simp only [hp, Bool.false_eq_true, if_false] at HC
    clear her hp HEP
    go_enter Tryz.func55, Tryz.ntmps55
    go_wp2_with fail
    refine HCU.out.mono ?_
    rintro e w2 ⟨rfl, nn, rfl⟩
    obtain ⟨w2, hw2⟩ : ∃ W, w.drewN nn = W := ⟨_, rfl⟩
    have HB2 := Lib.hid (show Below w.heap.size w w2 by rw [← hw2]; exact below_drewN (Below.refl _ _) nn)
    have hlk := HLK.out w2 HB2.out
    have hm3 := (HB2.out.cell (p := ⟨0, 0, none⟩) hm2).trans hm1
    rw [hw2]
    clear hw2
    go_wp2_with fail
    refine (HC.out _).mono ?_
    rintro e w3 ⟨rfl, hw⟩
    have hw2 := hw.symm
    subst hw2
    clear hw
    go_wp2
    go_ret3
    exact en_no HF.out HB2.out
   | true =>
    obtain ⟨u, rfl⟩ : ∃ u, n = 35 :: u := by
     obtain ⟨u, h⟩ := List.isPrefixOf_iff_prefix.1 hp
     exact ⟨u, h.symm⟩
    simp only [hp, if_true, List.drop_succ_cons, List.drop_zero] at HC
    have hul : u.length ≤ 100000000 := by simp at hnl; omega
    have HEV := Lib.hid (entV_hash her)
    have HD10 := Lib.hid (fun W => digits_any u 10 7 W hul (by decide) (by decide) (by decide))
    unfold DgPost at HD10
    obtain ⟨N, hN⟩ : ∃ N : List UInt8, (35 :: u : List UInt8) = N := ⟨_, rfl⟩
    rw [hN] at HEV hnl
    simp only [hN] at HC HLK HEP
    rw [hN] at HCU
    clear her hp hN
    cases u with
    | nil =>
     have HF := Lib.hid (show o = none by rw [HEP.out]; show (entV N).map _ = _; rw [HEV.out]; rfl)
     have g1 : (ba ([] : List UInt8)).toList.isEmpty = true := by rw [ba_toList]; rfl
     have hnp : numP [] 10 7 = none := rfl
     simp only [hnp, Option.isSome_none] at HD10
     clear HEP HEV hnp
     go_enter Tryz.func55, Tryz.ntmps55
     go_wp2_with fail
     refine HCU.out.mono ?_
     rintro e w2 ⟨rfl, nn, rfl⟩
     obtain ⟨w2, hw2⟩ : ∃ W, w.drewN nn = W := ⟨_, rfl⟩
     have HB2 := Lib.hid (show Below w.heap.size w w2 by rw [← hw2]; exact below_drewN (Below.refl _ _) nn)
     have hlk := HLK.out w2 HB2.out
     have hm3 := (HB2.out.cell (p := ⟨0, 0, none⟩) hm2).trans hm1
     rw [hw2]
     clear hw2
     go_wp2_with fail
     refine (HC.out _).mono ?_
     rintro e w3 ⟨rfl, hw⟩
     have hw2 := hw.symm
     subst hw2
     clear hw
     go_wp2_with fail
     refine (HD10.out _).mono ?_
     rintro e w4 ⟨v4, rfl, -, hb4⟩
     have HB4 := Lib.hid (HB2.out.trans (hb4.mono HB2.out.size))
     clear hb4
     go_wp2
     go_ret3
     exact en_no HF.out HB4.out
    | cons x u =>
     have g1 : (ba (x :: u)).toList.isEmpty = false := by rw [ba_toList]; rfl
     have hx2 : (ba (x :: u)).extract 1 (ba (x :: u)).size = ba u := ba_drop _ _
     have h2i : (1 : Int) ≤ ((ba (x :: u)).size : Int) := by rw [ba_size]; simp; omega
     obtain ⟨X, hX⟩ : ∃ X : Int, (x.toNat : Int) = X := ⟨_, rfl⟩
     have hgi : ∃ h : 0 < (ba (x :: u)).size, (((ba (x :: u))[0]'h).toNat : Int) = X := ⟨by rw [ba_size]; simp, hX⟩
     have HX2 := Lib.hid hx2
     have HD16 := Lib.hid (show ∀ W, Calls Tryz.prog 117 #[.string (ba u), .int .i64 16, .int .i64 6] W (DgPost W (numP u 16 6)) from fun W => digits_any u 16 6 W (by simp at hul; omega) (by decide) (by decide) (by decide))
     have HD10' := Lib.hid (show ∀ W, Calls Tryz.prog 117 #[.string (ba (x :: u)), .int .i64 10, .int .i64 7] W (DgPost W (numP (x :: u) 10 7)) from HD10.out)
     unfold DgPost at HD16 HD10'
     obtain ⟨U, hU⟩ : ∃ U, ba (x :: u) = U := ⟨_, rfl⟩
     simp only [hU] at HC HD10'
     rw [hU] at g1 hx2 h2i hgi HX2
     have e120 : x = 120 ↔ X = 120 := ⟨fun h => by rw [← hX, h]; rfl, fun h => UInt8.toNat_inj.1 (by have : (120 : UInt8).toNat = 120 := rfl; omega)⟩
     have e88 : x = 88 ↔ X = 88 := ⟨fun h => by rw [← hX, h]; rfl, fun h => UInt8.toNat_inj.1 (by have : (88 : UInt8).toNat = 88 := rfl; omega)⟩
     clear hX hU HD10 hx2
     obtain ⟨hz0, hgj⟩ := hgi
     by_cases x1 : X = 120
     ·have k1 : (X == 120) = true := by rw [x1]; rfl
      have hxx : x = 120 ∨ x = 88 := .inl (e120.2 x1)
      have HEO := Lib.hid (show o = ((numP u 16 6).map runeC).map fun v => (v, r) by rw [HEP.out]; show (entV N).map _ = _; rw [HEV.out]; show (if x = 120 ∨ x = 88 then _ else _ : Option (List UInt8)).map _ = _; rw [if_pos hxx])
      clear HEP HEV hxx e120 e88
      cases hnp : numP u 16 6 with
      | none =>
       have HF := Lib.hid (show o = none by rw [HEO.out, hnp]; rfl)
       simp only [hnp, Option.isSome_none] at HD16
       clear hnp HEO
       go_enter Tryz.func55, Tryz.ntmps55
       go_wp2_with fail
       refine HCU.out.mono ?_
       rintro e w2 ⟨rfl, nn, rfl⟩
       obtain ⟨w2, hw2⟩ : ∃ W, w.drewN nn = W := ⟨_, rfl⟩
       have HB2 := Lib.hid (show Below w.heap.size w w2 by rw [← hw2]; exact below_drewN (Below.refl _ _) nn)
       have hlk := HLK.out w2 HB2.out
       have hm3 := (HB2.out.cell (p := ⟨0, 0, none⟩) hm2).trans hm1
       rw [hw2]
       clear hw2
       go_wp2_with fail
       refine (HC.out _).mono ?_
       rintro e w3 ⟨rfl, hw⟩
       have hw2 := hw.symm
       subst hw2
       clear hw
       go_wp2_with fail
       refine (HD10'.out _).mono ?_
       rintro e w4 ⟨v4, rfl, hv4, hb4⟩
       have HB4 := Lib.hid (HB2.out.trans (hb4.mono HB2.out.size))
       clear hb4
       clear hv4
       go_wp2_with fail
       rw [HX2.out]
       refine (HD16.out _).mono ?_
       rintro e w5 ⟨v5, rfl, hv5, hb5⟩
       have HB5 := Lib.hid (HB4.out.trans (hb5.mono HB4.out.size))
       clear hb5
       clear hv5
       go_wp2
       go_ret3
       exact en_no HF.out HB5.out
      | some y =>
       have HF := Lib.hid (show o = some (runeC y, r) by rw [HEO.out, hnp]; rfl)
       simp only [hnp, Option.isSome_some] at HD16
       clear hnp HEO
       go_enter Tryz.func55, Tryz.ntmps55
       go_wp2_with fail
       refine HCU.out.mono ?_
       rintro e w2 ⟨rfl, nn, rfl⟩
       obtain ⟨w2, hw2⟩ : ∃ W, w.drewN nn = W := ⟨_, rfl⟩
       have HB2 := Lib.hid (show Below w.heap.size w w2 by rw [← hw2]; exact below_drewN (Below.refl _ _) nn)
       have hlk := HLK.out w2 HB2.out
       have hm3 := (HB2.out.cell (p := ⟨0, 0, none⟩) hm2).trans hm1
       rw [hw2]
       clear hw2
       go_wp2_with fail
       refine (HC.out _).mono ?_
       rintro e w3 ⟨rfl, hw⟩
       have hw2 := hw.symm
       subst hw2
       clear hw
       go_wp2_with fail
       refine (HD10'.out _).mono ?_
       rintro e w4 ⟨v4, rfl, hv4, hb4⟩
       have HB4 := Lib.hid (HB2.out.trans (hb4.mono HB2.out.size))
       clear hb4
       clear hv4
       go_wp2_with fail
       rw [HX2.out]
       refine (HD16.out _).mono ?_
       rintro e w5 ⟨v5, rfl, hv5, hb5⟩
       have HB5 := Lib.hid (HB4.out.trans (hb5.mono HB4.out.size))
       clear hb5
       obtain rfl := hv5 y rfl
       clear hv5
       go_wp2_with fail
       refine (runeC_any y _).mono ?_
       rintro e w9 ⟨rfl, hw⟩
       have hw2 := hw.symm
       subst hw2
       clear hw
       go_wp2
       go_ret3
       exact en_yes HF.out rfl HB5.out
     have k1 : (X == 120) = false := by simpa using x1
     by_cases x2 : X = 88
     ·have k2 : (X == 88) = true := by rw [x2]; rfl
      have hxx : x = 120 ∨ x = 88 := .inr (e88.2 x2)
      have HEO := Lib.hid (show o = ((numP u 16 6).map runeC).map fun v => (v, r) by rw [HEP.out]; show (entV N).map _ = _; rw [HEV.out]; show (if x = 120 ∨ x = 88 then _ else _ : Option (List UInt8)).map _ = _; rw [if_pos hxx])
      clear HEP HEV hxx e120 e88
      cases hnp : numP u 16 6 with
      | none =>
       have HF := Lib.hid (show o = none by rw [HEO.out, hnp]; rfl)
       simp only [hnp, Option.isSome_none] at HD16
       clear hnp HEO
       go_enter Tryz.func55, Tryz.ntmps55
       go_wp2_with fail
       refine HCU.out.mono ?_
       rintro e w2 ⟨rfl, nn, rfl⟩
       obtain ⟨w2, hw2⟩ : ∃ W, w.drewN nn = W := ⟨_, rfl⟩
       have HB2 := Lib.hid (show Below w.heap.size w w2 by rw [← hw2]; exact below_drewN (Below.refl _ _) nn)
       have hlk := HLK.out w2 HB2.out
       have hm3 := (HB2.out.cell (p := ⟨0, 0, none⟩) hm2).trans hm1
       rw [hw2]
       clear hw2
       go_wp2_with fail
       refine (HC.out _).mono ?_
       rintro e w3 ⟨rfl, hw⟩
       have hw2 := hw.symm
       subst hw2
       clear hw
       go_wp2_with fail
       refine (HD10'.out _).mono ?_
       rintro e w4 ⟨v4, rfl, hv4, hb4⟩
       have HB4 := Lib.hid (HB2.out.trans (hb4.mono HB2.out.size))
       clear hb4
       clear hv4
       go_wp2_with fail
       rw [HX2.out]
       refine (HD16.out _).mono ?_
       rintro e w5 ⟨v5, rfl, hv5, hb5⟩
       have HB5 := Lib.hid (HB4.out.trans (hb5.mono HB4.out.size))
       clear hb5
       clear hv5
       go_wp2
       go_ret3
       exact en_no HF.out HB5.out
      | some y =>
       have HF := Lib.hid (show o = some (runeC y, r) by rw [HEO.out, hnp]; rfl)
       simp only [hnp, Option.isSome_some] at HD16
       clear hnp HEO
       go_enter Tryz.func55, Tryz.ntmps55
       go_wp2_with fail
       refine HCU.out.mono ?_
       rintro e w2 ⟨rfl, nn, rfl⟩
       obtain ⟨w2, hw2⟩ : ∃ W, w.drewN nn = W := ⟨_, rfl⟩
       have HB2 := Lib.hid (show Below w.heap.size w w2 by rw [← hw2]; exact below_drewN (Below.refl _ _) nn)
       have hlk := HLK.out w2 HB2.out
       have hm3 := (HB2.out.cell (p := ⟨0, 0, none⟩) hm2).trans hm1
       rw [hw2]
       clear hw2
       go_wp2_with fail
       refine (HC.out _).mono ?_
       rintro e w3 ⟨rfl, hw⟩
       have hw2 := hw.symm
       subst hw2
       clear hw
       go_wp2_with fail
       refine (HD10'.out _).mono ?_
       rintro e w4 ⟨v4, rfl, hv4, hb4⟩
       have HB4 := Lib.hid (HB2.out.trans (hb4.mono HB2.out.size))
       clear hb4
       clear hv4
       go_wp2_with fail
       rw [HX2.out]
       refine (HD16.out _).mono ?_
       rintro e w5 ⟨v5, rfl, hv5, hb5⟩
       have HB5 := Lib.hid (HB4.out.trans (hb5.mono HB4.out.size))
       clear hb5
       obtain rfl := hv5 y rfl
       clear hv5
       go_wp2_with fail
       refine (runeC_any y _).mono ?_
       rintro e w9 ⟨rfl, hw⟩
       have hw2 := hw.symm
       subst hw2
       clear hw
       go_wp2
       go_ret3
       exact en_yes HF.out rfl HB5.out
     have k2 : (X == 88) = false := by simpa using x2
     have hxx : ¬ (x = 120 ∨ x = 88) := by rw [e120, e88]; exact fun h => h.elim x1 x2
     have HEO := Lib.hid (show o = ((numP (x :: u) 10 7).map runeC).map fun v => (v, r) by rw [HEP.out]; show (entV N).map _ = _; rw [HEV.out]; show (if x = 120 ∨ x = 88 then _ else _ : Option (List UInt8)).map _ = _; rw [if_neg hxx])
     clear HEP HEV hxx e120 e88
     cases hnp : numP (x :: u) 10 7 with
     | none =>
      have HF := Lib.hid (show o = none by rw [HEO.out, hnp]; rfl)
      simp only [hnp, Option.isSome_none] at HD10'
      clear hnp HEO
      go_enter Tryz.func55, Tryz.ntmps55
      go_wp2_with fail
      refine HCU.out.mono ?_
      rintro e w2 ⟨rfl, nn, rfl⟩
      obtain ⟨w2, hw2⟩ : ∃ W, w.drewN nn = W := ⟨_, rfl⟩
      have HB2 := Lib.hid (show Below w.heap.size w w2 by rw [← hw2]; exact below_drewN (Below.refl _ _) nn)
      have hlk := HLK.out w2 HB2.out
      have hm3 := (HB2.out.cell (p := ⟨0, 0, none⟩) hm2).trans hm1
      rw [hw2]
      clear hw2
      go_wp2_with fail
      refine (HC.out _).mono ?_
      rintro e w3 ⟨rfl, hw⟩
      have hw2 := hw.symm
      subst hw2
      clear hw
      go_wp2_with fail
      refine (HD10'.out _).mono ?_
      rintro e w4 ⟨v4, rfl, hv4, hb4⟩
      have HB4 := Lib.hid (HB2.out.trans (hb4.mono HB2.out.size))
      clear hb4
      clear hv4
      go_wp2
      go_ret3
      exact en_no HF.out HB4.out
     | some y =>
      have HF := Lib.hid (show o = some (runeC y, r) by rw [HEO.out, hnp]; rfl)
      simp only [hnp, Option.isSome_some] at HD10'
      clear hnp HEO
      go_enter Tryz.func55, Tryz.ntmps55
      go_wp2_with fail
      refine HCU.out.mono ?_
      rintro e w2 ⟨rfl, nn, rfl⟩
      obtain ⟨w2, hw2⟩ : ∃ W, w.drewN nn = W := ⟨_, rfl⟩
      have HB2 := Lib.hid (show Below w.heap.size w w2 by rw [← hw2]; exact below_drewN (Below.refl _ _) nn)
      have hlk := HLK.out w2 HB2.out
      have hm3 := (HB2.out.cell (p := ⟨0, 0, none⟩) hm2).trans hm1
      rw [hw2]
      clear hw2
      go_wp2_with fail
      refine (HC.out _).mono ?_
      rintro e w3 ⟨rfl, hw⟩
      have hw2 := hw.symm
      subst hw2
      clear hw
      go_wp2_with fail
      refine (HD10'.out _).mono ?_
      rintro e w4 ⟨v4, rfl, hv4, hb4⟩
      have HB4 := Lib.hid (HB2.out.trans (hb4.mono HB2.out.size))
      clear hb4
      obtain rfl := hv4 y rfl
      clear hv4
      go_wp2_with fail
      refine (runeC_any y _).mono ?_
      rintro e w9 ⟨rfl, hw⟩
      have hw2 := hw.symm
      subst hw2
      clear hw
      go_wp2
      go_ret3
      exact en_yes HF.out rfl HB4.out
end Go.Proofs.YthidbmeaccpjdaaGreatDoor
