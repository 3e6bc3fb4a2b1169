/- Reference 12: the contract of Parse (printed by gen_rdisp.py). -/
import Derived.Test.YtnpgnohlcphfnaaGreatDoorRLst
import Derived.Test.YtnpgnohlcphfnaaGreatDoorRCtB
import Derived.Test.YtnpgnohlcphfnaaGreatDoorRCtD
import Derived.Test.YtnpgnohlcphfnaaGreatDoorM03
import Derived.Test.YtnpgnohlcphfnaaGreatDoorM16
namespace Go.Proofs.YtnpgnohlcphfnaaGreatDoor
open Go.RowKit
set_option linter.unusedVariables false

set_option maxRecDepth 100000 in
set_option maxHeartbeats 4000000 in
theorem rparse12_any (l : List UInt8) (w : World) (hl : l.length ≤ 10000000) :
    Calls Tryz.prog 11 #[.string (ba l)] w (TypPost w (parseT l)) := by
  have HOK := Lib.hid (tokRows_ok l)
  obtain ⟨r, rs, hrs⟩ := rows_first l
  have HPT := Lib.hid (parseT_eq l hrs)
  have HRA := Lib.hid (fun W => rrows_any l W (by omega))
  rw [hrs] at HOK
  simp only [hrs] at HRA
  unfold RowsPost at HRA
  have hrl := HOK.out.1 r (List.mem_cons_self ..)
  have hnl := HOK.out.2
  have hB0 : Below w.heap.size w (w.alloc (.cells #[.string ⟨#[]⟩, .string ⟨#[]⟩, .slice none 0 0] 26)) := (Below.refl _ _).alloc (Nat.le_refl _) _
  have HB0 := Lib.hid hB0
  have HFI := Lib.hid (fun W => rfind_any (joinP r) 47 W (by omega))
  clear hrs hB0
  go_enter Tryz.func11, Tryz.ntmps11
  go_wp2_with fail
  refine (HRA.out _).mono ?_
  rintro e w1 ⟨v1, xs, rfl, hra, hb1⟩
  obtain ⟨A1, c1, rfl, hc1, hc2, hin⟩ := hra.rows
  have HIN := Lib.hid hin
  have HB1 := Lib.hid hb1
  obtain ⟨ad, A2, c2, rfl, hbl, hcell, hc3, hc4, htk⟩ := hin.first
  have HTK := Lib.hid htk
  have HC34 := Lib.hid (And.intro hc3 hc4)
  have HC12 := Lib.hid (And.intro hc1 hc2)
  have hz1 : w.heap.size + 1 ≤ w1.heap.size := by have := HB1.out.size; simp at this; exact this
  have HBX1 := Lib.hid (show w1.heap[w.heap.size]? = some (.cells #[.string ⟨#[]⟩, .string ⟨#[]⟩, .slice none 0 0] 26) from (HB1.out.block w.heap.size (by simp)).trans (MapKept.heap_alloc w _).1)
  clear HB1
  have HB1 := Lib.hid (HB0.out.trans (hb1.mono (by simp)))
  clear hra hb1 hin htk hc3 hc4
  have hl1 : (r :: rs).length = rs.length + 1 := rfl
  rw [hl1] at hc1 HIN hnl ⊢
  have HCUT := Lib.hid HIN.out.tail
  obtain ⟨m, hm⟩ : ∃ m, rs.length = m := ⟨_, rfl⟩
  rw [hm] at HCUT HIN hc1 hnl
  rw [hm]
  have HNL := Lib.hid hnl
  clear hl1 hm HC12
  go_wp2_with fail
  refine (rtext_any r A2 r.length c2 w1 HTK.out (by omega) (by omega)).mono ?_
  rintro e w2 ⟨rfl, hw2⟩
  have hw3 := hw2.symm
  subst hw3
  clear hw2
  have d0 := cells_at HBX1.out 0 (u := .string ⟨#[]⟩) rfl
  have d1 := cells_at HBX1.out 1 (u := .string ⟨#[]⟩) rfl
  have d2 := cells_at HBX1.out 2 (u := .slice none 0 0) rfl
  have e0 := cells_free HBX1.out 0
  have e1 := cells_free HBX1.out 1
  have e2 := cells_free HBX1.out 2
  cases hcp : cutP 47 (joinP r) with
  | none =>
    have hcv : cutV 47 (joinP r) = (joinP r, [], false) := by unfold cutV; rw [hcp]
    have hfv : findV 47 (joinP r) = -1 := by unfold findV; rw [hcp]
    have HF := Lib.hid (show parseT l = plainT by rw [HPT.out, hcv, if_neg (by rintro ⟨h1, h2, h3⟩; cases h1)])
    have HFJ := Lib.hid (HFI.out w1)
    rw [hfv] at HFJ
    clear hcp hcv hfv
    go_wp2_with fail
    refine HFJ.out.mono ?_
    rintro e w2 ⟨rfl, hw2⟩
    have hw3 := hw2.symm
    subst hw3
    clear hw2
    go_wp2
    refine bodyPost_ret (v := .tuple #[.agg #[.string ⟨#[116, 101, 120, 116]⟩, .string ⟨#[112, 108, 97, 105, 110]⟩, .slice none 0 0], .bool false]) (by simp [results, Tryz.results11, go_sem, d0, d1, d2]) rfl ?_
    exact typ_plain HF.out (OwnPars.nil_ _ _) (((HB1.out.setCell (Nat.le_refl _) _).setCell (Nat.le_refl _) _).setCell (Nat.le_refl _) _)
  | some q =>
    obtain ⟨x, y⟩ := q
    have hcv : cutV 47 (joinP r) = (x, y, true) := by unfold cutV; rw [hcp]
    have hfv : findV 47 (joinP r) = (x.length : Int) := by unfold findV; rw [hcp]
    have hla := (cutP_some hcp).1
    have hlen : (joinP r).length = x.length + 1 + y.length := by rw [hla, List.length_append, List.length_cons]; omega
    have hx1 : (ba (joinP r)).extract 0 x.length = ba x := by rw [ba_cut, hla]; simp
    have hx2 : (ba (joinP r)).extract (x.length + 1) (ba (joinP r)).size = ba y := by rw [ba_drop, hla]; simp
    have hxl : x.length ≤ 10000000 := by omega
    have hyl : y.length ≤ 10000000 := by omega
    rw [hcv] at HPT
    have HFJ := Lib.hid (HFI.out w1)
    rw [hfv] at HFJ
    obtain ⟨M, hM⟩ : ∃ M, x.length = M := ⟨_, rfl⟩
    obtain ⟨TL, hTL⟩ : ∃ TL, M + 1 + y.length = TL := ⟨_, rfl⟩
    have hjs : ((ba (joinP r)).size : Int) = (TL : Int) := by rw [ba_size, hlen, hM, hTL]
    rw [hM] at HFJ hx1 hx2
    have HX1 := Lib.hid hx1
    have HX2 := Lib.hid hx2
    have HMM := Lib.hid hM
    have hM0 : ¬ (M : Int) < 0 := by omega
    have hM1 : (M : Int) ≤ (TL : Int) := by omega
    have hM2 : (M : Int) + 1 ≤ (TL : Int) := by omega
    have hM7 : (0 : Int) ≤ (M : Int) + 1 := by omega
    have hM5 : ((M : Int) + 1).toNat = M + 1 := by omega
    have hM6 : IntKind.i64.wrap ((M : Int) + 1) = (M : Int) + 1 := IntWalk.i64_in _ (by omega)
    have hM3 : (0 : Int) ≤ (M : Int) := by omega
    have hM4 : (M : Int) ≤ 10000000 := by omega
    clear hcp hcv hfv hla hlen hx1 hx2 hM hTL
    go_wp2_with fail
    refine HFJ.out.mono ?_
    rintro e w2 ⟨rfl, hw2⟩
    have hw3 := hw2.symm
    subst hw3
    clear hw2
    rcases Bool.eq_false_or_eq_true (isWord x) with hx | hx
    · rcases Bool.eq_false_or_eq_true (isWord y) with hy | hy
      · have HF := Lib.hid (show parseT l = (⟨smallP x, smallP y, paramsP rs⟩, true) by rw [HPT.out, if_pos (by refine ⟨?_, hx, hy⟩; first | rfl | trivial)])
        go_wp2_with fail
        rw [HX1.out]
        refine (rword_any x w1 (by omega)).mono ?_
        rintro e w4 ⟨he4, hw4⟩
        rw [hx] at he4
        subst he4
        have hw5 := hw4.symm
        subst hw5
        clear hw4
        go_wp2_with fail
        rw [HX2.out]
        refine (rword_any y w1 (by omega)).mono ?_
        rintro e w4 ⟨he4, hw4⟩
        rw [hy] at he4
        subst he4
        have hw5 := hw4.symm
        subst hw5
        clear hw4
        have HLI : Hid (∀ W, Below w1.heap.size w1 W → ∀ A9 n9 c9, (Value.slice A9 n9 c9 = .slice (some ⟨ad.block, ad.off + 1, none⟩) m (c1 - 1) ∨ (c1 = 1 ∧ Value.slice A9 n9 c9 = .slice (some ad) m 0)) → Calls Tryz.prog 40 #[.slice A9 n9 c9] W (ListPost W (paramsP rs))) := Lib.hid fun W hW A9 n9 c9 h9 => by
          have hb := hW
          have hin := (HCUT.out.below hb).more hb.size
          have hj : ∀ r ∈ rs, (joinP r).length ≤ 10000000 ∧ r.length ≤ 1000000000 := fun r hr => by have := HOK.out.1 r (List.mem_cons_of_mem _ hr); omega
          rcases h9 with h9 | ⟨hc, h9⟩
          · injection h9 with q1 q2 q3
            subst q1; subst q2; subst q3
            exact rlist_any rs _ _ _ W hin (by have := HNL.out; omega) hj
          · injection h9 with q1 q2 q3
            subst q1; subst q2; subst q3
            rcases hin.one (ad := ad) hc1 with ⟨_, h⟩ | ⟨h, _⟩
            · exact rlist_any rs _ _ _ W h (by have := HNL.out; omega) hj
            · exact absurd hc h
        have HW := Lib.hid (show Below w1.heap.size w1 w1.drew from (Below.refl _ _).drew)
        have hxl9 : x.length ≤ 1000000000 := by omega
        have hyl9 : y.length ≤ 1000000000 := by omega
        have HFB := Lib.hid (show ∀ W, Below w1.heap.size w1 W → W.heap[w.heap.size]? = some (.cells #[.string ⟨#[]⟩, .string ⟨#[]⟩, .slice none 0 0] 26) from fun W hW => (hW.block w.heap.size (by omega)).trans HBX1.out)
        by_cases hcc : c1 = 1
        · subst hcc
          have hm0 : m = 0 := by omega
          subst hm0
          have HLJ := Lib.hid (fun W hW => HLI.out W hW _ _ _ (.inr ⟨rfl, rfl⟩))
          have hx1 := HX1.out
          have hx2 := HX2.out
          clear hc1 hc2
          go_wp2
          go_region_with
            (first
              | (go_at_call 39; refine (rsmall_any _ _ ?_).mono ?_; (first | exact hxl9 | exact hyl9); rintro e w9 ⟨rfl, hb9⟩; (
                  have HW2 := Lib.hid (HW.out.trans (hb9.mono HW.out.size))
                  (first | (have HO2 := Lib.hid (HO.out.below hb9); clear HO; have HO := HO2; clear HO2) | skip)
                  clear HW hb9
                  have HW := HW2
                  clear HW2
                  have p0 := cells_at (HFB.out _ HW.out) 0 (u := .string ⟨#[]⟩) rfl
                  have p1 := cells_at (HFB.out _ HW.out) 1 (u := .string ⟨#[]⟩) rfl
                  have p2 := cells_at (HFB.out _ HW.out) 2 (u := .slice none 0 0) rfl
                  have q0 := cells_free (HFB.out _ HW.out) 0
                  have q1 := cells_free (HFB.out _ HW.out) 1
                  have q2 := cells_free (HFB.out _ HW.out) 2))
              | (go_at_call 40; refine (HLJ.out _ HW.out).mono ?_; rintro e w9 ⟨v9, rfl, ho9, hb9⟩; (
                  obtain ⟨A9, c9, rfl, -, -, -⟩ := ho9.reads
                  have HW2 := Lib.hid (HW.out.trans (hb9.mono HW.out.size))
                  have HO := Lib.hid (ho9.more HW.out.size)
                  clear HW hb9 ho9
                  have HW := HW2
                  clear HW2
                  have p0 := cells_at (HFB.out _ HW.out) 0 (u := .string ⟨#[]⟩) rfl
                  have p1 := cells_at (HFB.out _ HW.out) 1 (u := .string ⟨#[]⟩) rfl
                  have p2 := cells_at (HFB.out _ HW.out) 2 (u := .slice none 0 0) rfl
                  have q0 := cells_free (HFB.out _ HW.out) 0
                  have q1 := cells_free (HFB.out _ HW.out) 1
                  have q2 := cells_free (HFB.out _ HW.out) 2)))
          all_goals
            go_wp2
            refine bodyPost_ret (v := .tuple #[.agg #[.string (ba (smallP x)), .string (ba (smallP y)), .slice A9 (paramsP rs).length c9], .bool true]) (by simp [results, Tryz.results11, go_sem, p0, p1, p2]) rfl ?_
            exact typ_fin HF.out rfl rfl (own_set3 (HO.out.more (by omega)) HO.out (by omega) _ _ _) ((((HB1.out.trans (HW.out.mono HB1.out.size)).setCell (Nat.le_refl _) _).setCell (Nat.le_refl _) _).setCell (Nat.le_refl _) _)
        · have HLJ := Lib.hid (fun W hW => HLI.out W hW _ _ _ (.inl rfl))
          have hx1 := HX1.out
          have hx2 := HX2.out
          go_wp2
          go_region_with
            (first
              | (go_at_call 39; refine (rsmall_any _ _ ?_).mono ?_; (first | exact hxl9 | exact hyl9); rintro e w9 ⟨rfl, hb9⟩; (
                  have HW2 := Lib.hid (HW.out.trans (hb9.mono HW.out.size))
                  (first | (have HO2 := Lib.hid (HO.out.below hb9); clear HO; have HO := HO2; clear HO2) | skip)
                  clear HW hb9
                  have HW := HW2
                  clear HW2
                  have p0 := cells_at (HFB.out _ HW.out) 0 (u := .string ⟨#[]⟩) rfl
                  have p1 := cells_at (HFB.out _ HW.out) 1 (u := .string ⟨#[]⟩) rfl
                  have p2 := cells_at (HFB.out _ HW.out) 2 (u := .slice none 0 0) rfl
                  have q0 := cells_free (HFB.out _ HW.out) 0
                  have q1 := cells_free (HFB.out _ HW.out) 1
                  have q2 := cells_free (HFB.out _ HW.out) 2))
              | (go_at_call 40; refine (HLJ.out _ HW.out).mono ?_; rintro e w9 ⟨v9, rfl, ho9, hb9⟩; (
                  obtain ⟨A9, c9, rfl, -, -, -⟩ := ho9.reads
                  have HW2 := Lib.hid (HW.out.trans (hb9.mono HW.out.size))
                  have HO := Lib.hid (ho9.more HW.out.size)
                  clear HW hb9 ho9
                  have HW := HW2
                  clear HW2
                  have p0 := cells_at (HFB.out _ HW.out) 0 (u := .string ⟨#[]⟩) rfl
                  have p1 := cells_at (HFB.out _ HW.out) 1 (u := .string ⟨#[]⟩) rfl
                  have p2 := cells_at (HFB.out _ HW.out) 2 (u := .slice none 0 0) rfl
                  have q0 := cells_free (HFB.out _ HW.out) 0
                  have q1 := cells_free (HFB.out _ HW.out) 1
                  have q2 := cells_free (HFB.out _ HW.out) 2)))
          all_goals
            go_wp2
            refine bodyPost_ret (v := .tuple #[.agg #[.string (ba (smallP x)), .string (ba (smallP y)), .slice A9 (paramsP rs).length c9], .bool true]) (by simp [results, Tryz.results11, go_sem, p0, p1, p2]) rfl ?_
            exact typ_fin HF.out rfl rfl (own_set3 (HO.out.more (by omega)) HO.out (by omega) _ _ _) ((((HB1.out.trans (HW.out.mono HB1.out.size)).setCell (Nat.le_refl _) _).setCell (Nat.le_refl _) _).setCell (Nat.le_refl _) _)
      · have HF := Lib.hid (show parseT l = plainT by rw [HPT.out, if_neg (by rintro ⟨h1, h2, h3⟩; rw [hy] at h3; cases h3)])
        go_wp2_with fail
        rw [HX1.out]
        refine (rword_any x w1 (by omega)).mono ?_
        rintro e w4 ⟨he4, hw4⟩
        rw [hx] at he4
        subst he4
        have hw5 := hw4.symm
        subst hw5
        clear hw4
        go_wp2_with fail
        rw [HX2.out]
        refine (rword_any y w1 (by omega)).mono ?_
        rintro e w4 ⟨he4, hw4⟩
        rw [hy] at he4
        subst he4
        have hw5 := hw4.symm
        subst hw5
        clear hw4
        go_wp2
        refine bodyPost_ret (v := .tuple #[.agg #[.string ⟨#[116, 101, 120, 116]⟩, .string ⟨#[112, 108, 97, 105, 110]⟩, .slice none 0 0], .bool false]) (by simp [results, Tryz.results11, go_sem, d0, d1, d2]) rfl ?_
        exact typ_plain HF.out (OwnPars.nil_ _ _) (((HB1.out.setCell (Nat.le_refl _) _).setCell (Nat.le_refl _) _).setCell (Nat.le_refl _) _)
    · have hyy : ∃ b, isWord y = b := ⟨_, rfl⟩
      obtain ⟨yb, hy⟩ := hyy
      have HF := Lib.hid (show parseT l = plainT by rw [HPT.out, if_neg (by rintro ⟨h1, h2, h3⟩; rw [hx] at h2; cases h2)])
      go_wp2_with fail
      rw [HX1.out]
      refine (rword_any x w1 (by omega)).mono ?_
      rintro e w4 ⟨he4, hw4⟩
      rw [hx] at he4
      subst he4
      have hw5 := hw4.symm
      subst hw5
      clear hw4
      go_wp2_with fail
      rw [HX2.out]
      refine (rword_any y w1 (by omega)).mono ?_
      rintro e w4 ⟨he4, hw4⟩
      rw [hy] at he4
      subst he4
      have hw5 := hw4.symm
      subst hw5
      clear hw4
      go_wp2
      refine bodyPost_ret (v := .tuple #[.agg #[.string ⟨#[116, 101, 120, 116]⟩, .string ⟨#[112, 108, 97, 105, 110]⟩, .slice none 0 0], .bool false]) (by simp [results, Tryz.results11, go_sem, d0, d1, d2]) rfl ?_
      exact typ_plain HF.out (OwnPars.nil_ _ _) (((HB1.out.setCell (Nat.le_refl _) _).setCell (Nat.le_refl _) _).setCell (Nat.le_refl _) _)
end Go.Proofs.YtnpgnohlcphfnaaGreatDoor
