/- Layer 9: the contract of Put (printed by gen_put.py). -/
import Derived.Test.YtnpgnohlcphfnaaGreatDoorHdR4
import Derived.Test.YtnpgnohlcphfnaaGreatDoorHdA
import Derived.Test.YtnpgnohlcphfnaaGreatDoorFoldP
namespace Go.Proofs.YtnpgnohlcphfnaaGreatDoor
open Go.RowKit
set_option linter.unusedVariables false

/-- A value, folded from here on. -/
def foldL (b : Bool) (n : Nat) (v : List UInt8) : List UInt8 := foldG v.length b n v
theorem foldG_fuel : ∀ (f g : Nat) (b : Bool) (n : Nat) (v : List UInt8), v.length ≤ f → v.length ≤ g → foldG f b n v = foldG g b n v
  | f, g, b, n, [], _, _ => by rw [fold_nil, fold_nil]
  | 0, g, b, n, c :: r, h, _ => by simp at h
  | f + 1, 0, b, n, c :: r, _, h => by simp at h
  | f + 1, g + 1, b, n, c :: r, h, h2 => by
    have hp := pieceP_pos (c :: r)
    have ih := fun n' => foldG_fuel f g false n' ((c :: r).drop (pieceP (c :: r))) (by rw [List.length_drop]; omega) (by rw [List.length_drop]; omega)
    rw [fold_cons (by simp), fold_cons (by simp), ih, ih]
theorem foldL_cons {b : Bool} {n : Nat} {v : List UInt8} (hv : v ≠ []) : foldL b n v =
    if b = false ∧ 78 < n + pieceP v then [13, 10] ++ v.take (pieceP v) ++ foldL false (pieceP v) (v.drop (pieceP v))
    else v.take (pieceP v) ++ foldL false (n + pieceP v) (v.drop (pieceP v)) := by
  obtain ⟨m, hm⟩ : ∃ m, v.length = m + 1 := ⟨v.length - 1, by cases v with | nil => exact absurd rfl hv | cons c r => simp⟩
  have hp := pieceP_pos v
  unfold foldL
  rw [hm, fold_cons hv]
  have e := fun n' => foldG_fuel m (v.drop (pieceP v)).length false n' (v.drop (pieceP v)) (by rw [List.length_drop]; omega) (Nat.le_refl _)
  rw [e, e]
theorem foldL_nil (b : Bool) (n : Nat) : foldL b n [] = [] := rfl
theorem foldL_len (b : Bool) (n : Nat) (v : List UInt8) : (foldL b n v).length ≤ 3 * v.length := foldG_len _ _ _ _
theorem pieceP_le {v : List UInt8} (hv : v ≠ []) : pieceP v ≤ v.length := by
  have key : ∀ v : List UInt8, pieceP v ≤ v.length ∨ v = [] := by
    intro v
    induction v with
    | nil => exact .inr rfl
    | cons c r ih =>
      cases r with
      | nil => exact .inl (Nat.le_refl _)
      | cons d r =>
        refine .inl ?_
        unfold pieceP
        split
        · simp
        · have := ih.resolve_right (by simp)
          simp only [List.length_cons] at this ⊢
          omega
  exact (key v).resolve_right hv
/-- How far the search for the piece's end has come. -/
def PcRel (v : List UInt8) (i : Nat) : Prop := pieceP v = i + pieceP (v.drop i)
theorem pc_drop {v : List UInt8} {i : Nat} (hi : i < v.length) : ∃ c, v.drop i = c :: v.drop (i + 1) := ⟨_, List.drop_eq_getElem_cons hi⟩
theorem pc_last {v : List UInt8} {i : Nat} (hi : i + 1 = v.length) (h : PcRel v i) : pieceP v = i + 1 := by
  obtain ⟨c, hc⟩ := pc_drop (v := v) (i := i) (by omega)
  rw [show v.drop (i + 1) = [] from List.drop_of_length_le (by omega)] at hc
  rw [h, hc]
  rfl
theorem pc_stop {v : List UInt8} {i : Nat} (hi : i + 1 < v.length) (h : PcRel v i) (h1 : goesP (v.drop (i + 1)) = true) (h2 : goesP (v.drop i) = false) : pieceP v = i + 1 := by
  obtain ⟨c, hc⟩ := pc_drop (v := v) (i := i) (by omega)
  obtain ⟨d, hd⟩ := pc_drop (v := v) (i := i + 1) hi
  rw [h, hc, hd]
  rw [hd] at h1
  rw [hc] at h2
  unfold pieceP
  rw [if_pos ⟨h1, h2⟩]
theorem pc_go {v : List UInt8} {i : Nat} (hi : i + 1 < v.length) (h : PcRel v i) (h1 : goesP (v.drop (i + 1)) = false ∨ goesP (v.drop i) = true) : PcRel v (i + 1) := by
  obtain ⟨c, hc⟩ := pc_drop (v := v) (i := i) (by omega)
  obtain ⟨d, hd⟩ := pc_drop (v := v) (i := i + 1) hi
  unfold PcRel at h ⊢
  rw [h, hc, hd]
  conv => lhs; unfold pieceP
  rw [hd, hc] at h1
  rw [if_neg]
  · omega
  · rintro ⟨h2, h3⟩
    rcases h1 with h1 | h1
    · exact absurd (h1.symm.trans h2) (by decide)
    · exact absurd (h3.symm.trans h1) (by decide)
theorem airP_length (l : List UInt8) : (airP l).length = l.length := List.length_map _
theorem trimS_len (l : List UInt8) : (Lib.trimS l blanksP).length ≤ l.length := by
  unfold Lib.trimS Lib.trimLeftS
  refine Nat.le_trans (List.dropWhile_suffix _).length_le ?_
  exact trimR_len l
/-- The state of Put's loop. -/
structure PuRel (w w2 : World) (name V : List UInt8) (acc : List UInt8) (n : Nat) (b : Bool) (v : List UInt8) (wr : World) : Prop where
  bld : Bld wr w2.heap.size w2.heap.size acc
  bel : Below w.heap.size w wr
  siz : w2.heap.size < wr.heap.size
  eq : name ++ [58, 32] ++ foldV name V = acc ++ foldL b n v
  num : n + v.length ≤ name.length + 2 + V.length
  len : v.length ≤ V.length
theorem PuRel.acc_le {w w2 wr : World} {name V acc v : List UInt8} {n : Nat} {b : Bool} (h : PuRel w w2 name V acc n b v wr) : acc.length ≤ name.length + 2 + 3 * V.length := by
  have h1 := congrArg List.length h.eq
  have h2 := foldG_len V.length true (name.length + 2) V
  rw [List.length_append, List.length_append, List.length_append] at h1
  unfold foldV at h1
  simp only [List.length_cons, List.length_nil] at h1
  omega
set_option maxRecDepth 100000 in
set_option maxHeartbeats 4000000 in
theorem hput_any (name value : List UInt8) (w : World) (hn : name.length ≤ 100000000) (hv : value.length ≤ 100000000) :
    Calls Tryz.prog 27 #[.string (ba name), .string (ba value)] w (StrB w (putP name value)) := by
  have HRI := Lib.hid (hright_any name w (by omega))
  cases hok : nameOk name with
  | false =>
    rw [hok] at HRI
    have HF := Lib.hid (show putP name value = [] by unfold putP; rw [if_neg (by rw [hok]; decide)])
    clear hok
    go_enter Tryz.func27, Tryz.ntmps27
    go_wp2_with fail
    refine HRI.out.mono ?_
    rintro e w1 ⟨rfl, hw⟩
    have hw2 := hw.symm
    subst hw2
    clear hw
    go_wp2
    go_ret
    exact str_fin0 (by rw [HF.out]; rfl) (Below.refl _ _)
  | true =>
    rw [hok] at HRI
    obtain ⟨V, hV⟩ : ∃ V, Lib.trimS (airP value) blanksP = V := ⟨_, rfl⟩
    have hVl : V.length ≤ 100000000 := by rw [← hV]; have := trimS_len (airP value); rw [airP_length] at this; omega
    have HVL := Lib.hid hVl
    have HF := Lib.hid (show putP name value = name ++ [58, 32] ++ foldV name V ++ [13, 10] by unfold putP; rw [if_pos hok, hV])
    have HNR := Lib.hid (fun X c W h => airrep_any X c W h)
    unfold AirRep at HNR
    have HRP := Lib.hid (fun b g c w0 W h => airreplace_any value b g c w0 W (by omega) h)
    have HTR := Lib.hid (fun W => htrim_any (airP value) W (by rw [airP_length]; omega))
    unfold StrB at HTR
    simp only [hV] at HTR
    have hap := ba_append name [58, 32]
    have hap1 : ba name ++ ⟨#[58, 32]⟩ = ba (name ++ [58, 32]) := hap.symm ▸ rfl
    have hln : ¬ 9223372036854775807 < (ba name).size + (⟨#[58, 32]⟩ : ByteArray).size := by rw [ba_size]; show ¬ _ < name.length + 2; omega
    have hnz : ((ba name).size : Int) = (name.length : Nat) := by rw [ba_size]
    have HHN := Lib.hid hn
    have hB0 : Below w.heap.size w (w.alloc (.cells #[.string ⟨#[13]⟩, .string ⟨#[32]⟩, .string ⟨#[10]⟩, .string ⟨#[32]⟩] 9)) := (Below.refl _ _).alloc (Nat.le_refl _) _
    have HB0 := Lib.hid hB0
    have HX := Lib.hid (show ∀ j u, (sv airStrs)[j]? = some u → (w.alloc (.cells #[.string ⟨#[13]⟩, .string ⟨#[32]⟩, .string ⟨#[10]⟩, .string ⟨#[32]⟩] 9)).cell? ((⟨w.heap.size, 0, none⟩ : Addr).add j) = some u from fun j u hu => by
      rw [add_base]
      match j, hu with
      | 0, hu => (have h : (Value.string ⟨#[13]⟩) = u := Option.some.inj hu); subst h; simp
      | 1, hu => (have h : (Value.string ⟨#[32]⟩) = u := Option.some.inj hu); subst h; simp
      | 2, hu => (have h : (Value.string ⟨#[10]⟩) = u := Option.some.inj hu); subst h; simp
      | 3, hu => (have h : (Value.string ⟨#[32]⟩) = u := Option.some.inj hu); subst h; simp
      | n + 4, hu => cases hu)
    clear hok hV hap hB0
    go_enter Tryz.func27, Tryz.ntmps27
    go_wp2_with fail
    refine HRI.out.mono ?_
    rintro e w1 ⟨rfl, hw⟩
    have hw2 := hw.symm
    subst hw2
    clear hw
    go_wp2_with fail
    refine (HNR.out _ _ _ HX.out).mono ?_
    rintro e w1 ⟨b, g, c, rfl, hN⟩
    have HB1 := Lib.hid (HB0.out.trans (hN.bel.mono HB0.out.size))
    have HN := Lib.hid hN
    have hz0 := HB0.out.size
    clear hN
    go_wp2_with fail
    refine (HRP.out b g c _ w1 HN.out).mono ?_
    rintro e w2 ⟨rfl, hb2⟩
    have HB2 := Lib.hid (HB0.out.trans (hb2.mono hz0))
    clear hb2
    go_wp2_with fail
    refine (HTR.out w2).mono ?_
    rintro e w3 ⟨rfl, hb3⟩
    have HB3 := Lib.hid (HB2.out.trans (hb3.mono HB2.out.size))
    have hz3 := HB3.out.size
    clear hb3
    have HB4 := Lib.hid (HB3.out.alloc hz3 (.cells #[.pointer none, .slice none 0 0] 73))
    have HBL := Lib.hid (bld_new w3)
    have hsz4 : w3.heap.size ≤ (w3.alloc (.cells #[.pointer none, .slice none 0 0] 73)).heap.size := by simp
    have HWS := Lib.hid (write_string _ _ _ (name ++ [58, 32]) _ HBL.out (by rw [List.length_append]; simp; omega) hsz4)
    go_wp2_with fail
    refine HWS.out.mono ?_
    rintro e w5 ⟨rfl, hW⟩
    have hb5 : Below w.heap.size w w5 := HB4.out.trans (hW.bel.mono (by have := hz3; omega))
    have HPU := Lib.hid (show PuRel w w3 name V (name ++ [58, 32]) (name.length + 2) true V w5 from ⟨by simpa using hW.bld, hb5, by have := hW.bel.size; have h9 := hW.bld.lt; exact h9, rfl, by omega, Nat.le_refl _⟩)
    have hni : (name.length : Int) ≤ 100000000 := by omega
    clear hW hb5
    go_wp2
    go_loopw [1, 6, 7, 8] (fun vv nn fb kk wr => ∃ (v : List UInt8) (n : Nat) (b : Bool) (acc : List UInt8) (y : Value), kk = y ∧ vv = .string (ba v) ∧ nn = .int .i64 (n : Int) ∧ fb = .bool b ∧ Hid (PuRel w w3 name V acc n b v wr)) (fun vv _ _ _ _ => Lib.strSize vv)
    case atStart => exact ⟨V, name.length + 2, true, _, _, rfl, rfl, by first | rfl | simp, rfl, HPU⟩
    case round =>
      obtain ⟨v, n, b, acc, y, rfl, rfl, rfl, rfl, HR⟩ := hrel
      have hacc := HR.out.acc_le
      have hszr : w3.heap.size ≤ wr.heap.size := Nat.le_of_lt HR.out.siz
      have hnm := HR.out.num
      have hvl := HR.out.len
      by_cases hve : v = []
      · subst hve
        have g1 : (ba ([] : List UInt8)).toList.isEmpty = true := by rw [ba_toList]; rfl
        have HE := Lib.hid (show acc = name ++ [58, 32] ++ foldV name V by rw [HR.out.eq, foldL_nil, List.append_nil])
        have hap2 : ba acc ++ ⟨#[13, 10]⟩ = ba (acc ++ [13, 10]) := (ba_append acc [13, 10]).symm ▸ rfl
        have hln2 : ¬ 9223372036854775807 < (ba acc).size + (⟨#[13, 10]⟩ : ByteArray).size := by rw [ba_size]; have := HHN.out; have := HVL.out; show ¬ _ < acc.length + 2; omega
        have HBS := Lib.hid (bld_string _ _ _ wr HR.out.bld hszr)
        have HBE := Lib.hid HR.out.bel
        clear HR hacc hnm hvl
        go_wp2_with fail
        refine HBS.out.mono ?_
        rintro e w6 ⟨rfl, hW⟩
        have HW := Lib.hid hW.bel
        clear hW
        go_wp2
        go_ret
        exact str_fin0 (by rw [HF.out, HE.out]) (HBE.out.trans (HW.out.mono (by have := HB3.out.size; omega)))
      · have hne : v ≠ [] := hve
        have g1 : (ba v).toList.isEmpty = false := by rw [ba_toList]; simpa using hne
        have hpos : 0 < v.length := List.length_pos_iff.2 hne
        clear hve
        obtain ⟨m, hm⟩ : ∃ m, v.length = m := ⟨_, rfl⟩
        have HM := Lib.hid hm
        have hvz : ((ba v).size : Int) = (m : Int) := by rw [ba_size, hm]
        have hmi : (m : Int) ≤ 100000000 := by have := HVL.out; omega
        have HGO := Lib.hid (fun i W => hgoes_any (v.drop i) W)
        have HDR := Lib.hid (fun i => ba_drop v i)
        have HPL := Lib.hid (pieceP_le hne)
        have HPP := Lib.hid (pieceP_pos v)
        have HFC := Lib.hid (foldL_cons (b := b) (n := n) hne)
        rw [hm] at hpos
        clear hm hne
        go_wp2
        obtain ⟨w9, rfl⟩ : ∃ w9, w9 = wr := ⟨_, rfl⟩
        go_loop [8] (fun kk => ∃ i : Nat, i + 1 ≤ m ∧ kk = .int .i64 ((i : Int) + 1) ∧ Hid (PcRel v i)) (fun kk => m - (intOf kk).toNat)
        case atStart => exact ⟨0, by omega, by first | rfl | simp, Lib.hid (by unfold PcRel; simp)⟩
        case round =>
          obtain ⟨i, him, rfl, HI⟩ := hrel
          have hii : (i : Int) ≤ 100000000 := by omega
          have hi0 : (0 : Int) ≤ (i : Int) := by omega
          have hi1 : (0 : Int) ≤ (i : Int) + 1 := by omega
          have hit : ((i : Int) + 1).toNat = i + 1 := by omega
          by_cases hlt : i + 1 < m
          · have hlt2 : (i : Int) + 1 < (m : Int) := by omega
            have hle2 : (i : Int) + 1 ≤ (m : Int) := by omega
            have hle3 : (i : Int) ≤ (m : Int) := by omega
            have hx1 := HDR.out (i + 1)
            have hx2 := HDR.out i
            have HG1 := Lib.hid (HGO.out (i + 1) w9)
            have HG2 := Lib.hid (HGO.out i w9)
            have HST := Lib.hid (fun h1 h2 => pc_stop (by rw [HM.out]; exact hlt) HI.out h1 h2)
            have HGN := Lib.hid (fun h1 => pc_go (by rw [HM.out]; exact hlt) HI.out h1)
            cases h1 : goesP (v.drop (i + 1)) with
            | false =>
              rw [h1] at HG1
              have HN := Lib.hid (HGN.out (.inl h1))
              clear h1
              go_wp2_with fail
              refine HG1.out.mono ?_
              rintro e w6 ⟨rfl, hw⟩
              have hw2 := hw.symm
              subst hw2
              clear hw
              go_wp2
              go_round
              case rel => exact ⟨i + 1, by omega, by go_num, HN⟩
              case measure => simp [intOf] <;> omega
            | true =>
              rw [h1] at HG1
              cases h2 : goesP (v.drop i) with
              | true =>
                rw [h2] at HG2
                have HN := Lib.hid (HGN.out (.inr h2))
                clear h1 h2
                go_wp2_with fail
                refine HG1.out.mono ?_
                rintro e w6 ⟨rfl, hw⟩
                have hw2 := hw.symm
                subst hw2
                clear hw
                go_wp2_with fail
                refine HG2.out.mono ?_
                rintro e w6 ⟨rfl, hw⟩
                have hw2 := hw.symm
                subst hw2
                clear hw
                go_wp2
                go_round
                case rel => exact ⟨i + 1, by omega, by go_num, HN⟩
                case measure => simp [intOf] <;> omega
              | false =>
                rw [h2] at HG2
                have HPV := Lib.hid (HST.out h1 h2)
                clear h1 h2
                go_wp2_with fail
                refine HG1.out.mono ?_
                rintro e w6 ⟨rfl, hw⟩
                have hw2 := hw.symm
                subst hw2
                clear hw
                go_wp2_with fail
                refine HG2.out.mono ?_
                rintro e w6 ⟨rfl, hw⟩
                have hw2 := hw.symm
                subst hw2
                clear hw
                rw [HPV.out] at HPL HPP HFC
                have HTD := Lib.hid (show (v.take (i + 1)).length = i + 1 by rw [List.length_take, HM.out]; omega)
                have HDL := Lib.hid (show (v.drop (i + 1)).length = m - (i + 1) by rw [List.length_drop, HM.out])
                have hxt : (ba v).extract 0 (i + 1) = ba (v.take (i + 1)) := by rw [ba_cut, List.drop_zero]
                have hxd : (ba v).extract (i + 1) (ba v).size = ba (v.drop (i + 1)) := ba_drop v _
                have hle9 : (i : Int) + 1 ≤ (m : Int) := by omega
                have hni2 : (n : Int) ≤ 300000000 := by have := HHN.out; have := HVL.out; have := HM.out; omega
                have hn0 : (0 : Int) ≤ (n : Int) := by omega
                cases b with
                | true =>
                  have HFC2 := Lib.hid (show foldL true n v = v.take (i + 1) ++ foldL false (n + (i + 1)) (v.drop (i + 1)) by rw [HFC.out, if_neg (by rintro ⟨h, _⟩; cases h)])
                  have HW1 := Lib.hid (write_string _ _ _ (v.take (i + 1)) w9 HR.out.bld (by rw [HTD.out]; have := HHN.out; have := HVL.out; omega) hszr)
                  go_wp2_with fail
                  refine HW1.out.mono ?_
                  rintro e w6 ⟨rfl, hW⟩
                  have HN := Lib.hid (show PuRel w w3 name V (acc ++ v.take (i + 1)) (n + (i + 1)) false (v.drop (i + 1)) w6 from ⟨hW.bld, HR.out.bel.trans (hW.bel.mono (by have := HB3.out.size; omega)), Nat.lt_of_lt_of_le HR.out.siz hW.bel.size, by rw [HR.out.eq, HFC2.out, List.append_assoc], by rw [HDL.out]; have := HM.out; omega, by rw [HDL.out]; have := HM.out; omega⟩)
                  clear hW
                  go_wp2
                  go_roundw
                  case rel => exact ⟨v.drop (i + 1), n + (i + 1), false, _, _, rfl, rfl, by go_num, rfl, HN⟩
                  case measure => rw [Lib.strSize_string, Lib.strSize_string, ba_size, ba_size, HDL.out, HM.out]; omega
                | false =>
                  by_cases h78 : 78 < n + (i + 1)
                  · have g78 : decide ((78 : Int) < (n : Int) + ((i : Int) + 1)) = true := decide_eq_true (by omega)
                    have HFC2 := Lib.hid (show foldL false n v = [13, 10] ++ v.take (i + 1) ++ foldL false (i + 1) (v.drop (i + 1)) by rw [HFC.out, if_pos ⟨rfl, h78⟩])
                    have HW0 := Lib.hid (show Calls Tryz.prog 60 #[.pointer (some ⟨w3.heap.size, 0, none⟩), .string ⟨#[13, 10]⟩] w9 (WrotePost w9 w3.heap.size w3.heap.size (acc ++ [13, 10]) (.tuple #[.int .i64 ((2 : Nat) : Int), .nilIface])) from write_string _ _ _ [13, 10] w9 HR.out.bld (by have := HHN.out; have := HVL.out; simp; omega) hszr)
                    clear h78
                    go_wp2_with fail
                    refine HW0.out.mono ?_
                    rintro e w5 ⟨rfl, hW0⟩
                    have hsz5 : w3.heap.size ≤ w5.heap.size := Nat.le_trans hszr hW0.bel.size
                    have HW1 := Lib.hid (write_string _ _ _ (v.take (i + 1)) w5 hW0.bld (by rw [HTD.out]; have := HHN.out; have := HVL.out; simp; omega) hsz5)
                    have HB5 := Lib.hid (HR.out.bel.trans (hW0.bel.mono (by have := HB3.out.size; omega)))
                    have HS5 := Lib.hid (Nat.lt_of_lt_of_le HR.out.siz hW0.bel.size)
                    clear hW0
                    go_wp2_with fail
                    refine HW1.out.mono ?_
                    rintro e w6 ⟨rfl, hW⟩
                    have HN := Lib.hid (show PuRel w w3 name V (acc ++ [13, 10] ++ v.take (i + 1)) (i + 1) false (v.drop (i + 1)) w6 from ⟨hW.bld, HB5.out.trans (hW.bel.mono (by have := HB3.out.size; omega)), Nat.lt_of_lt_of_le HS5.out hW.bel.size, by rw [HR.out.eq, HFC2.out]; simp, by rw [HDL.out]; have := HM.out; omega, by rw [HDL.out]; have := HM.out; omega⟩)
                    clear hW
                    go_wp2
                    go_roundw
                    case rel => exact ⟨v.drop (i + 1), i + 1, false, _, _, rfl, rfl, by go_num, rfl, HN⟩
                    case measure => rw [Lib.strSize_string, Lib.strSize_string, ba_size, ba_size, HDL.out, HM.out]; omega
                  · have g78 : decide ((78 : Int) < (n : Int) + ((i : Int) + 1)) = false := decide_eq_false (by omega)
                    have HFC2 := Lib.hid (show foldL false n v = v.take (i + 1) ++ foldL false (n + (i + 1)) (v.drop (i + 1)) by rw [HFC.out, if_neg (fun h => h78 h.2)])
                    have HW1 := Lib.hid (write_string _ _ _ (v.take (i + 1)) w9 HR.out.bld (by rw [HTD.out]; have := HHN.out; have := HVL.out; omega) hszr)
                    clear h78
                    go_wp2_with fail
                    refine HW1.out.mono ?_
                    rintro e w6 ⟨rfl, hW⟩
                    have HN := Lib.hid (show PuRel w w3 name V (acc ++ v.take (i + 1)) (n + (i + 1)) false (v.drop (i + 1)) w6 from ⟨hW.bld, HR.out.bel.trans (hW.bel.mono (by have := HB3.out.size; omega)), Nat.lt_of_lt_of_le HR.out.siz hW.bel.size, by rw [HR.out.eq, HFC2.out, List.append_assoc], by rw [HDL.out]; have := HM.out; omega, by rw [HDL.out]; have := HM.out; omega⟩)
                    clear hW
                    go_wp2
                    go_roundw
                    case rel => exact ⟨v.drop (i + 1), n + (i + 1), false, _, _, rfl, rfl, by go_num, rfl, HN⟩
                    case measure => rw [Lib.strSize_string, Lib.strSize_string, ba_size, ba_size, HDL.out, HM.out]; omega
          · have hlt2 : ¬ (i : Int) + 1 < (m : Int) := by omega
            have HPV := Lib.hid (pc_last (by rw [HM.out]; omega) HI.out)
            rw [HPV.out] at HPL HPP HFC
            have HTD := Lib.hid (show (v.take (i + 1)).length = i + 1 by rw [List.length_take, HM.out]; omega)
            have HDL := Lib.hid (show (v.drop (i + 1)).length = m - (i + 1) by rw [List.length_drop, HM.out])
            have hxt : (ba v).extract 0 (i + 1) = ba (v.take (i + 1)) := by rw [ba_cut, List.drop_zero]
            have hxd : (ba v).extract (i + 1) (ba v).size = ba (v.drop (i + 1)) := ba_drop v _
            have hle9 : (i : Int) + 1 ≤ (m : Int) := by omega
            have hni2 : (n : Int) ≤ 300000000 := by have := HHN.out; have := HVL.out; have := HM.out; omega
            have hn0 : (0 : Int) ≤ (n : Int) := by omega
            cases b with
            | true =>
              have HFC2 := Lib.hid (show foldL true n v = v.take (i + 1) ++ foldL false (n + (i + 1)) (v.drop (i + 1)) by rw [HFC.out, if_neg (by rintro ⟨h, _⟩; cases h)])
              have HW1 := Lib.hid (write_string _ _ _ (v.take (i + 1)) w9 HR.out.bld (by rw [HTD.out]; have := HHN.out; have := HVL.out; omega) hszr)
              go_wp2_with fail
              refine HW1.out.mono ?_
              rintro e w6 ⟨rfl, hW⟩
              have HN := Lib.hid (show PuRel w w3 name V (acc ++ v.take (i + 1)) (n + (i + 1)) false (v.drop (i + 1)) w6 from ⟨hW.bld, HR.out.bel.trans (hW.bel.mono (by have := HB3.out.size; omega)), Nat.lt_of_lt_of_le HR.out.siz hW.bel.size, by rw [HR.out.eq, HFC2.out, List.append_assoc], by rw [HDL.out]; have := HM.out; omega, by rw [HDL.out]; have := HM.out; omega⟩)
              clear hW
              go_wp2
              go_roundw
              case rel => exact ⟨v.drop (i + 1), n + (i + 1), false, _, _, rfl, rfl, by go_num, rfl, HN⟩
              case measure => rw [Lib.strSize_string, Lib.strSize_string, ba_size, ba_size, HDL.out, HM.out]; omega
            | false =>
              by_cases h78 : 78 < n + (i + 1)
              · have g78 : decide ((78 : Int) < (n : Int) + ((i : Int) + 1)) = true := decide_eq_true (by omega)
                have HFC2 := Lib.hid (show foldL false n v = [13, 10] ++ v.take (i + 1) ++ foldL false (i + 1) (v.drop (i + 1)) by rw [HFC.out, if_pos ⟨rfl, h78⟩])
                have HW0 := Lib.hid (show Calls Tryz.prog 60 #[.pointer (some ⟨w3.heap.size, 0, none⟩), .string ⟨#[13, 10]⟩] w9 (WrotePost w9 w3.heap.size w3.heap.size (acc ++ [13, 10]) (.tuple #[.int .i64 ((2 : Nat) : Int), .nilIface])) from write_string _ _ _ [13, 10] w9 HR.out.bld (by have := HHN.out; have := HVL.out; simp; omega) hszr)
                clear h78
                go_wp2_with fail
                refine HW0.out.mono ?_
                rintro e w5 ⟨rfl, hW0⟩
                have hsz5 : w3.heap.size ≤ w5.heap.size := Nat.le_trans hszr hW0.bel.size
                have HW1 := Lib.hid (write_string _ _ _ (v.take (i + 1)) w5 hW0.bld (by rw [HTD.out]; have := HHN.out; have := HVL.out; simp; omega) hsz5)
                have HB5 := Lib.hid (HR.out.bel.trans (hW0.bel.mono (by have := HB3.out.size; omega)))
                have HS5 := Lib.hid (Nat.lt_of_lt_of_le HR.out.siz hW0.bel.size)
                clear hW0
                go_wp2_with fail
                refine HW1.out.mono ?_
                rintro e w6 ⟨rfl, hW⟩
                have HN := Lib.hid (show PuRel w w3 name V (acc ++ [13, 10] ++ v.take (i + 1)) (i + 1) false (v.drop (i + 1)) w6 from ⟨hW.bld, HB5.out.trans (hW.bel.mono (by have := HB3.out.size; omega)), Nat.lt_of_lt_of_le HS5.out hW.bel.size, by rw [HR.out.eq, HFC2.out]; simp, by rw [HDL.out]; have := HM.out; omega, by rw [HDL.out]; have := HM.out; omega⟩)
                clear hW
                go_wp2
                go_roundw
                case rel => exact ⟨v.drop (i + 1), i + 1, false, _, _, rfl, rfl, by go_num, rfl, HN⟩
                case measure => rw [Lib.strSize_string, Lib.strSize_string, ba_size, ba_size, HDL.out, HM.out]; omega
              · have g78 : decide ((78 : Int) < (n : Int) + ((i : Int) + 1)) = false := decide_eq_false (by omega)
                have HFC2 := Lib.hid (show foldL false n v = v.take (i + 1) ++ foldL false (n + (i + 1)) (v.drop (i + 1)) by rw [HFC.out, if_neg (fun h => h78 h.2)])
                have HW1 := Lib.hid (write_string _ _ _ (v.take (i + 1)) w9 HR.out.bld (by rw [HTD.out]; have := HHN.out; have := HVL.out; omega) hszr)
                clear h78
                go_wp2_with fail
                refine HW1.out.mono ?_
                rintro e w6 ⟨rfl, hW⟩
                have HN := Lib.hid (show PuRel w w3 name V (acc ++ v.take (i + 1)) (n + (i + 1)) false (v.drop (i + 1)) w6 from ⟨hW.bld, HR.out.bel.trans (hW.bel.mono (by have := HB3.out.size; omega)), Nat.lt_of_lt_of_le HR.out.siz hW.bel.size, by rw [HR.out.eq, HFC2.out, List.append_assoc], by rw [HDL.out]; have := HM.out; omega, by rw [HDL.out]; have := HM.out; omega⟩)
                clear hW
                go_wp2
                go_roundw
                case rel => exact ⟨v.drop (i + 1), n + (i + 1), false, _, _, rfl, rfl, by go_num, rfl, HN⟩
                case measure => rw [Lib.strSize_string, Lib.strSize_string, ba_size, ba_size, HDL.out, HM.out]; omega
end Go.Proofs.YtnpgnohlcphfnaaGreatDoor
