/- Layer 12: the contract of rows. Layer 12: the contracts of Disposition and Param. Layer 12: the contract of Parse. Layer 14: the iterator of lines: its contract. -/
import Derived.IntWalk
import Derived.Deep.RegionLaw
import Derived.RangeFuncNested
import Derived.RangeFuncBound
import Derived.RangeFuncCalls
import Derived.RangeFuncLeaves
import Derived.Shelf.Abstract
import Derived.Shelf.RegionOpen
import Derived.WalkKit
import Derived.OwnWalkIn
import Derived.TacticsInMore
import Derived.LoopNIn
import Derived.LoopIn
import Derived.Test.YthidbmeaccpjdaaGreatDoorM10
import Derived.Test.YthidbmeaccpjdaaGreatDoorM11
import Derived.Test.YthidbmeaccpjdaaGreatDoorM08
import Derived.Test.YthidbmeaccpjdaaGreatDoorM09
import Derived.Test.YthidbmeaccpjdaaGreatDoorM01
section
namespace Go.Proofs.YthidbmeaccpjdaaGreatDoor
open Go.RowKit
set_option linter.unusedVariables false
theorem semi_kind {t : Tok} (h : t.kind ≠ 4 ∨ t.text ≠ [59]) : semiB t = false := by
 unfold semiB
 rcases h with h | h
 ·rw [decide_eq_false h]; rfl
 ·rw [decide_eq_false h, Bool.and_false]
theorem tokRows_def (l : List UInt8) : tokRows l = rowsP (bareP (scanP l)) := rfl
theorem scanF_len : ∀ (f : Nat) (l : List UInt8), (scanF f l).length ≤ f
 | 0, l => by simp [scanF]
 | f + 1, l => by
  unfold scanF
  split
  ·simp
  ·have := scanF_len f (l.drop (frontP l).2)
   simp only [List.length_cons]
   omega
theorem scanP_len (l : List UInt8) : (scanP l).length ≤ l.length := scanF_len _ _
theorem bareP_len (ts : List Tok) : (bareP ts).length ≤ ts.length := List.length_filter_le _ _
theorem rowsP_row : ∀ (l : List Tok) (r : List Tok), r ∈ rowsP l → r.length ≤ l.length
 | [], r, h => by
  have : r = [] := by simpa [rowsP] using h
  subst this
  exact Nat.le_refl _
 | t :: l, r, h => by
  unfold rowsP at h
  split at h
  ·rcases List.mem_cons.1 h with rfl | h
   ·exact Nat.zero_le _
   ·have := rowsP_row l r h
    simp only [List.length_cons]; omega
  ·split at h
   ·rename_i hr
    exact absurd hr (rowsP_ne l)
   ·rename_i a b hr
    rcases List.mem_cons.1 h with rfl | h
    ·have := rowsP_row l a (by rw [hr]; exact List.mem_cons_self ..)
     simp only [List.length_cons]; omega
    ·have := rowsP_row l r (by rw [hr]; exact List.mem_cons_of_mem _ h)
     simp only [List.length_cons]; omega
set_option maxRecDepth 100000 in
set_option maxHeartbeats 4000000 in
theorem rows_any (l : List UInt8) (w : World) (hl : l.length ≤ 500000000) :
  Calls Tryz.prog 151 #[.string (ba l)] w (RowsPost w (tokRows l)) := by
 have HTR := Lib.hid (tokRows_def l)
 have h1 := scanP_len l
 have h2 := bareP_len (scanP l)
 have HSL := Lib.hid h1
 have HROW0 := Lib.hid (World.ownsRow_lit (size := 1) (base := w.heap.size) (e := 90) w #[.slice none 0 0] 1 (Nat.le_refl _) (by decide) rfl)
 go_enter Tryz.func151, Tryz.ntmps151
 go_wp2_with fail
 refine (scan_any l _ (by omega)).mono ?_
 rintro e w1 ⟨v1, rfl, hs1, hb1⟩
 obtain ⟨A1, c1, rfl, hc1, hc2, hT1⟩ := hs1.reads
 have HB1 := Lib.hid hb1
 clear hs1 hb1 hc1 hc2
 go_wp2_with fail
 refine (bare_any (scanP l) A1 _ c1 w1 hT1 (by omega)).mono ?_
 rintro e w2 ⟨v2, rfl, hs2, hb2⟩
 obtain ⟨A2, c2, rfl, hc1, hc2, hT2⟩ := hs2.reads
 obtain ⟨ts, hts⟩ : ∃ ts, bareP (scanP l) = ts := ⟨_, rfl⟩
 rw [hts] at hT2 HTR hc1 h2
 rw [hts]
 have hn : ts.length ≤ 500000000 := by omega
 obtain ⟨n, hn2⟩ : ∃ n, ts.length = n := ⟨_, rfl⟩
 rw [hn2] at hT2 hn hc1
 rw [hn2]
 have HN := Lib.hid hn2
 have HT := Lib.hid hT2
 have hz0 : w.heap.size + 1 ≤ w1.heap.size := by have := HB1.out.size; simp at this; omega
 have HB2 := Lib.hid (hb2)
 have hz2 : w1.heap.size ≤ w2.heap.size := hb2.size
 have HBW := Lib.hid (show Below w.heap.size w w2 from ((Below.refl _ _).alloc (Nat.le_refl _) _).trans ((HB1.out.mono (by simp)).trans (hb2.mono (by omega))))
 have HLO := Lib.hid (show ∀ ad, A2 = some ad → w1.heap.size ≤ ad.block from fun ad e => by subst e; exact (hs2.row.lt ad.block rfl).1)
 have HR0 := Lib.hid (show RowsAt w2 w.heap.size w2.heap.size (.slice (some ⟨w.heap.size, 0, none⟩) 1 1) [[]] [.slice none 0 0] from by
  have hk : w2.heap[w.heap.size]? = (w.alloc (.cells #[.slice none 0 0] 90)).heap[w.heap.size]? := (hb2.block _ (by omega)).trans (HB1.out.block _ (by simp))
  refine ⟨ownsRow_block HROW0.out fun b e => ?_, rfl, fun i hi => ?_, fun i j b hij hj => ?_⟩
  ·have : w.heap.size = b := Option.some.inj e
   rw [← this]
   exact hk
  ·have : i = 0 := by simp at hi; exact hi
   subst this
   exact OwnToks.nil_ _ _
  ·simp at hj; omega)
 clear hT1 hs2 hb2 hc1 hc2 h1 h2 hts hn2 hT2
 go_wp2
 go_loopw [3, 5, 11] (fun v b i wr => ∃ (k : Nat) (y : Value), b = y ∧ k ≤ n ∧ i = .int .i64 (k : Int) ∧ Hid (RwRel w w2 ts k v wr)) (fun _ _ i _ => n - (intOf i).toNat)
 case atStart => exact ⟨0, _, rfl, Nat.zero_le _, rfl, Lib.hid ⟨⟨[], [], _, rfl, HR0.out⟩, HBW.out, fun b e => .inl (by injection e with e; exact e.symm), fun _ _ _ => rfl, Nat.le_refl _⟩⟩
 case round =>
  obtain ⟨k, y, rfl, hk, rfl, HR⟩ := hrel
  have hsz := HR.out.bel.size
  by_cases hlt : k < n
  ·have hk2 : (k : Int) < n := by omega
   have hkl : k < ts.length := by rw [HN.out]; exact hlt
   obtain ⟨rs, r, xs, hrw, hra⟩ := HR.out.ex
   have HRT := Lib.hid (rows_take hkl hrw)
   have HBE := Lib.hid HR.out.bel
   have HRL := Lib.hid (show r.length ≤ 1000000000 by
    have h1 := rowsP_row (ts.take k) r (by rw [hrw]; simp)
    rw [List.length_take] at h1
    omega)
   have hlen1 : (rs ++ [r]).length ≤ k + 1 := by
    rw [← hrw]
    have := rowsP_len (ts.take k)
    rw [List.length_take] at this
    omega
   obtain ⟨ad, rfl, hbl, c0, c1, c2⟩ := HT.out.2 k hkl
   have hadb : (ad.add (k * 2)).block ≠ w.heap.size := by rw [add_block]; have := HLO.out ad rfl; omega
   have hk9 := HR.out.keep _ hbl hadb
   have d0 := (World.cell?_of_block (a := ad.add (k * 2)) hk9).trans c0
   have d1 := (World.cell?_of_block (a := ⟨(ad.add (k * 2)).block, (ad.add (k * 2)).off + 1, none⟩) hk9).trans c1
   have HVB := Lib.hid HR.out.vb
   have HKP := Lib.hid HR.out.keep
   have hws := HR.out.size
   have HRA := Lib.hid hra
   clear hk9 c0 c1 hrw hra HR
   obtain ⟨t, ht⟩ : ∃ t, ts[k] = t := ⟨_, rfl⟩
   rw [ht] at d0 d1 HRT c2
   have HC2 := Lib.hid c2
   have hB : w.heap.size ≤ (wr.alloc (.cells #[.int .i64 t.kind, .string (ba t.text)] 94)).heap.size := by simp; omega
   have HRB := Lib.hid (show RowsAt (wr.alloc (.cells #[.int .i64 t.kind, .string (ba t.text)] 94)) w.heap.size w2.heap.size u3 (rs ++ [r]) xs from HRA.out.below ((Below.refl _ _).alloc (Nat.le_refl _) _))
   have HL1 := Lib.hid (show (rs ++ [r]).length ≤ 1000000000 by omega)
   clear ht c2 hkl hadb hbl
   by_cases hse : semiB t = true
   ·have hk4 : t.kind = 4 ∧ t.text = [59] := by
     unfold semiB at hse
     rw [Bool.and_eq_true, decide_eq_true_iff, decide_eq_true_iff] at hse
     exact hse
    have g1 : (t.kind == 4) = true := by simp [hk4.1]
    have g2 : (ba t.text).toList = [59] := by rw [ba_toList, hk4.2]
    have HRT2 := Lib.hid (show rowsP (ts.take (k + 1)) = (rs ++ [r]) ++ [[]] by rw [HRT.out, if_pos hse])
    clear hse hk4
    go_wp2_with (at_builtin; go_must (refine wpList_pushNil (W := (wr.alloc (.cells #[.int .i64 t.kind, .string (ba t.text)] 94))) HRB.out hB HL1.out rfl (.tmp 23) (.tmp 24) 1 rfl rfl (by show Value.slice (some ⟨wr.heap.size + 1, 0, none⟩) 1 1 = _; simp) ?_); intro v2 w3 h1 h2 h3; (have H1 := Lib.hid h1; have H2 := Lib.hid h2; have H3 := Lib.hid h3; clear h1 h2 h3))
    go_roundw
    case rel =>
     refine ⟨k + 1, _, rfl, by omega, by go_num, Lib.hid ⟨⟨_, _, _, HRT2.out, H1.out⟩, (HBE.out.alloc hsz _).grown H2.out hB (fun g e => (HRB.out.own.lt g e).1), fun b e => ?_, fun b hb hne => ?_, by have := H2.out.size; simp at this; omega⟩⟩
     ·rcases H3.out with h | ⟨q, hq, hq2⟩
      ·exact HVB.out b (by rw [← h]; exact e)
      ·rw [hq] at e
       have : q = b := Option.some.inj e
       simp at hq2
       omega
     ·refine (H2.out.block b (by simp; omega) fun e => ?_).trans ((heap_alloc_old _ _ (by omega)).trans (HKP.out b hb hne))
      rcases HVB.out b e.symm with h | h
      ·exact hne h
      ·omega
    case measure => simp [intOf] <;> omega
   ·have HRT2 := Lib.hid (show rowsP (ts.take (k + 1)) = rs ++ [r ++ [t]] by rw [HRT.out, if_neg hse])
    have hnk : (t.kind == 4) = false ∨ ((t.kind == 4) = true ∧ ((ba t.text).toList == [59]) = false ∧ ¬ (ba t.text).toList = [59]) := by
     by_cases h4 : t.kind = 4
     ·refine .inr ⟨by simp [h4], ?_⟩
      have h5 : t.text ≠ [59] := fun h => hse (by unfold semiB; simp [h4, h])
      rw [ba_toList]
      exact ⟨by simpa using h5, h5⟩
     ·exact .inl (by simpa using h4)
    clear hse
    obtain ⟨g, cap, hu3, hgB, hgL⟩ := HRB.out.own.form (by simp)
    subst hu3
    have hml : (rs ++ [r]).length = rs.length + 1 := by rw [List.length_append]; rfl
    have hcx := HRB.out.own.cellAt (g := g) rs.length (by omega)
    have hxl : xs.length = rs.length + 1 := by rw [HRB.out.len, hml]
    have hxv : xs[rs.length]? = some (xs.getD rs.length .nilFunc) := by rw [List.getD_eq_getElem?_getD, List.getElem?_eq_getElem (by omega)]; rfl
    rw [hxv] at hcx
    have hol := HRB.out.each rs.length (by omega)
    rw [List.getElem_append_right (Nat.le_refl _)] at hol
    simp only [Nat.sub_self, List.getElem_cons_zero] at hol
    obtain ⟨A3, c3, hA3, _, _, _⟩ := hol.reads
    have hgw : g ≠ wr.heap.size := by
     rcases HVB.out g rfl with h | h
     ·omega
     ·intro e
      have h1 := (HRA.out.own.lt g rfl).2
      omega
    have HRB3 := Lib.hid HRB.out
    obtain ⟨xv, hxv2⟩ : ∃ x, xs.getD rs.length .nilFunc = x := ⟨_, rfl⟩
    rw [hxv2] at hcx hol hA3
    subst hA3
    have HXV := Lib.hid hxv2
    have HOL := Lib.hid hol
    rw [hml]
    obtain ⟨m, hm⟩ : ∃ m, rs.length = m := ⟨_, rfl⟩
    rw [hm] at hcx hml hxl
    rw [hm]
    have HM := Lib.hid hm
    have hm9 : m ≤ 1000000000 := by have := HL1.out; omega
    have hfz : (wr.alloc (.cells #[.int .i64 t.kind, .string (ba t.text)] 94)).frozen? ⟨g, m, none⟩ = false := HRB.out.own.frozenAt m
    have hcx2 : ((wr.alloc (.cells #[.int .i64 t.kind, .string (ba t.text)] 94)).alloc (.cells #[.int .i64 t.kind, .string (ba t.text)] 94)).cell? ⟨g, m, none⟩ = some (Value.slice A3 r.length c3) := (((Below.refl (wr.alloc (.cells #[.int .i64 t.kind, .string (ba t.text)] 94)).heap.size (wr.alloc (.cells #[.int .i64 t.kind, .string (ba t.text)] 94))).alloc (Nat.le_refl _) (.cells #[.int .i64 t.kind, .string (ba t.text)] 94)).cell (p := ⟨g, m, none⟩) (HRB.out.own.lt g rfl).2).trans hcx
    have HOLD := Lib.hid (show OwnToks (wr.alloc (.cells #[.int .i64 t.kind, .string (ba t.text)] 94)).drew w2.heap.size (.slice A3 r.length c3) r from HOL.out.block fun _ _ => rfl)
    have hBL : w2.heap.size ≤ (wr.alloc (.cells #[.int .i64 t.kind, .string (ba t.text)] 94)).drew.heap.size := by simp; omega
    have HST := Lib.hid (show ∀ w3 : World, (wr.alloc (.cells #[.int .i64 t.kind, .string (ba t.text)] 94)).drew.grownBy w3 (Value.slice A3 r.length c3).ownBlock → w3.cell? ⟨g, m, none⟩ = some (Value.slice A3 r.length c3) ∧ w3.frozen? ⟨g, m, none⟩ = false from fun w3 h => by
     have hne : ∀ b, (Value.slice A3 r.length c3).ownBlock = some b → b ≠ g := fun b hb e => by
      subst e
      exact own_ne HOL.out.row HRB.out.own (by decide) hb rfl
     have hgk : w3.heap[g]? = (wr.alloc (.cells #[.int .i64 t.kind, .string (ba t.text)] 94)).heap[g]? := h.block g (HRB.out.own.lt g rfl).2 fun e => hne g e.symm rfl
     exact ⟨(World.cell?_of_block (a := ⟨g, m, none⟩) hgk).trans hcx, (by unfold World.frozen?; rw [hgk]; exact hfz)⟩)
    have HEND := Lib.hid (show ∀ (v' : Value) (w3 : World), OwnToks w3 w2.heap.size v' (r ++ [⟨t.kind, t.text⟩]) → (wr.alloc (.cells #[.int .i64 t.kind, .string (ba t.text)] 94)).drew.grownBy w3 (Value.slice A3 r.length c3).ownBlock → (v'.ownBlock = (Value.slice A3 r.length c3).ownBlock ∨ ∃ k, v'.ownBlock = some k ∧ (wr.alloc (.cells #[.int .i64 t.kind, .string (ba t.text)] 94)).drew.heap.size ≤ k) →
      RwRel w w2 ts (k + 1) (.slice (some ⟨g, 0, none⟩) (m + 1) cap) (w3.setCell ⟨g, m, none⟩ v') from fun v' w3 h1 h2 h3 => by
     have hg' : (wr.alloc (.cells #[.int .i64 t.kind, .string (ba t.text)] 94)).grownBy w3 (xs.getD rs.length .nilFunc).ownBlock := by
      rw [HXV.out]
      exact ⟨h2.os, h2.tape, h2.output, h2.size, h2.block⟩
     have hset := HRB3.out.setLast hg' h1 (by rw [HXV.out]; exact h3)
     rw [HM.out] at hset
     have hmm : (rs ++ [r]).length = m + 1 := by rw [List.length_append, HM.out]; rfl
     rw [hmm] at hset
     have hz := h2.size
     simp at hz
     refine ⟨⟨rs, r ++ [t], _, HRT2.out, hset⟩, (((HBE.out.alloc hsz _).drew).grown h2 (by simp; omega) fun q e => by have := (HOL.out.row.lt q e).1; omega).setCell hgB _, fun b e => HVB.out b e, fun b hb hne => ?_, by simp; omega⟩
     have hbg : b ≠ g := by
      rcases HVB.out g rfl with h | h <;> omega
     rw [heap_setCell_other _ ⟨g, m, none⟩ b _ hbg]
     refine (h2.block b (by simp; omega) fun e => ?_).trans ((heap_alloc_old _ _ (by omega)).trans (HKP.out b hb hne))
     have := (HOL.out.row.lt b e.symm).1
     omega)
    clear hxv hol hxv2 hm hml hxl HL1
    rcases hnk with g1 | ⟨g1, g2, g3⟩
    ·go_wp2
     have hmw : IntKind.i64.wrap (m : Int) = (m : Int) := IntWalk.i64_in _ (by omega)
     have hm0 : (0 : Int) ≤ (m : Int) := by omega
     have hm1 : (m : Int) < (m : Int) + 1 := by omega
     go_region_law
      (first
       | (refine step_pushTokN (W := (wr.alloc (.cells #[.int .i64 t.kind, .string (ba t.text)] 94)).drew) HOLD.out hBL HC2.out HRL.out rfl (.tmp 35) (.tmp 37) 1 rfl rfl (by show Value.slice (some ⟨wr.heap.size + 1, 0, none⟩) 1 1 = _; simp) ?_; intro v' w3 h1 h2 h3; (obtain ⟨A4, c4, hv4, -, -, -⟩ := h1.reads; rw [List.length_append, List.length_singleton] at hv4; subst hv4; have H1 := Lib.hid h1; have H2 := Lib.hid h2; have H3 := Lib.hid h3; clear h1 h2 h3; obtain ⟨p1, p2⟩ := HST.out w3 H2.out))
       | fail)
     all_goals
      go_wp2
      go_roundw
      case rel => exact ⟨k + 1, _, rfl, by omega, by go_num, Lib.hid (HEND.out _ _ H1.out H2.out H3.out)⟩
      case measure => simp [intOf] <;> omega
    ·go_wp2
     have hmw : IntKind.i64.wrap (m : Int) = (m : Int) := IntWalk.i64_in _ (by omega)
     have hm0 : (0 : Int) ≤ (m : Int) := by omega
     have hm1 : (m : Int) < (m : Int) + 1 := by omega
     go_region_law
      (first
       | (refine step_pushTokN (W := (wr.alloc (.cells #[.int .i64 t.kind, .string (ba t.text)] 94)).drew) HOLD.out hBL HC2.out HRL.out rfl (.tmp 35) (.tmp 37) 1 rfl rfl (by show Value.slice (some ⟨wr.heap.size + 1, 0, none⟩) 1 1 = _; simp) ?_; intro v' w3 h1 h2 h3; (obtain ⟨A4, c4, hv4, -, -, -⟩ := h1.reads; rw [List.length_append, List.length_singleton] at hv4; subst hv4; have H1 := Lib.hid h1; have H2 := Lib.hid h2; have H3 := Lib.hid h3; clear h1 h2 h3; obtain ⟨p1, p2⟩ := HST.out w3 H2.out))
       | fail)
     all_goals
      go_wp2
      go_roundw
      case rel => exact ⟨k + 1, _, rfl, by omega, by go_num, Lib.hid (HEND.out _ _ H1.out H2.out H3.out)⟩
      case measure => simp [intOf] <;> omega
  ·obtain rfl : k = n := by omega
   obtain ⟨rs, r, xs, hrw, hra⟩ := HR.out.ex
   rw [List.take_of_length_le (by rw [HN.out]; exact Nat.le_refl _)] at hrw
   have HRA := Lib.hid hra
   have HRW := Lib.hid hrw
   have HBE := Lib.hid HR.out.bel
   clear hrw hra HR
   go_wp2
   go_ret
   exact ⟨_, xs, rfl, by rw [HTR.out, HRW.out]; exact HRA.out.less (by omega), HBE.out⟩
end Go.Proofs.YthidbmeaccpjdaaGreatDoor
end
section
namespace Go.Proofs.YthidbmeaccpjdaaGreatDoor
open Go.RowKit
set_option linter.unusedVariables false
theorem frontP_le (l : List UInt8) : (frontP l).2 ≤ l.length := by
 cases l with
 | nil => exact Nat.le_refl _
 | cons c r => exact (frontP_len (by simp)).2
theorem joinP_cons (t : Tok) (l : List Tok) : (joinP (t :: l)).length = t.text.length + (joinP l).length := by unfold joinP; rw [List.flatMap_cons, List.length_append]
theorem scanF_join : ∀ (f : Nat) (l : List UInt8), (joinP (scanF f l)).length ≤ l.length
 | 0, l => by simp [scanF, joinP]
 | f + 1, l => by
  unfold scanF
  split
  ·simp [joinP]
  ·have h1 := scanF_join f (l.drop (frontP l).2)
   have h2 := frontP_le l
   rw [joinP_cons]
   show (l.take (frontP l).2).length + _ ≤ _
   rw [List.length_take]
   rw [List.length_drop] at h1
   omega
theorem bareP_join (ts : List Tok) : (joinP (bareP ts)).length ≤ (joinP ts).length := by
 unfold bareP
 induction ts with
 | nil => exact Nat.le_refl _
 | cons t r ih =>
  rw [List.filter_cons]
  split
  ·rw [joinP_cons, joinP_cons]; omega
  ·rw [joinP_cons]; omega
theorem rowsP_join : ∀ (l : List Tok) (r : List Tok), r ∈ rowsP l → (joinP r).length ≤ (joinP l).length
 | [], r, h => by
  have : r = [] := by simpa [rowsP] using h
  subst this
  exact Nat.le_refl _
 | t :: l, r, h => by
  unfold rowsP at h
  rw [joinP_cons]
  split at h
  ·rcases List.mem_cons.1 h with rfl | h
   ·simp [joinP]
   ·have := rowsP_join l r h
    omega
  ·split at h
   ·rename_i hr
    exact absurd hr (rowsP_ne l)
   ·rename_i a b hr
    rcases List.mem_cons.1 h with rfl | h
    ·have := rowsP_join l a (by rw [hr]; exact List.mem_cons_self ..)
     rw [joinP_cons]; omega
    ·have := rowsP_join l r (by rw [hr]; exact List.mem_cons_of_mem _ h)
     omega
theorem tokRows_ok (l : List UInt8) : (∀ r ∈ tokRows l, (joinP r).length ≤ l.length ∧ r.length ≤ l.length) ∧ (tokRows l).length ≤ l.length + 1 := by
 have h1 := scanP_len l
 have h2 := bareP_len (scanP l)
 have h3 : (joinP (scanP l)).length ≤ l.length := scanF_join _ l
 have h4 := bareP_join (scanP l)
 refine ⟨fun r hr => ?_, ?_⟩
 ·have h5 := rowsP_join _ r hr
  have h6 := rowsP_row _ r hr
  omega
 ·have := rowsP_len (bareP (scanP l))
  show (rowsP (bareP (scanP l))).length ≤ _
  omega
theorem rows_first (l : List UInt8) : ∃ r rs, tokRows l = r :: rs := by
 cases h : tokRows l with
 | nil => exact absurd h (rowsP_ne _)
 | cons r rs => exact ⟨r, rs, rfl⟩
theorem RowsIn.first {w : World} {B n : Nat} {A : Option Addr} {r : List Tok} {rs : List (List Tok)} (h : RowsIn w B A n (r :: rs)) : ∃ ad A' c', A = some ad ∧ ad.block < B ∧ w.cell? ad = some (.slice A' r.length c') ∧ r.length ≤ c' ∧ c' ≤ maxLen ∧ Toks w B A' r.length r := by
 obtain ⟨ad, A', c', h1, h2, h3, h4, h5, h6⟩ := h.at_ (k := 0) (by simp)
 have h7 : w.cell? (ad.add 0) = some (.slice A' r.length c') := h3
 have h8 : ad.add 0 = ad := by unfold Addr.add; rw [if_pos rfl]
 rw [h8] at h7
 exact ⟨ad, A', c', h1, h2, h7, h4, h5, h6⟩
theorem RowsIn.tail {w : World} {B n : Nat} {ad : Addr} {r : List Tok} {rs : List (List Tok)} (h : RowsIn w B (some ad) (n + 1) (r :: rs)) : RowsIn w B (some ⟨ad.block, ad.off + 1, none⟩) n rs := by
 obtain ⟨h1, xs, h2, h3, h4⟩ := h
 have hl : rs.length = n := by simpa using h1
 refine ⟨hl, xs.drop 1, by rw [List.length_drop, h2]; omega, ?_, fun i hi => ?_⟩
 ·rcases h3 with h3 | ⟨a, e, hb, hc⟩
  ·rw [h3] at h2; simp at h2
  ·injection e with e
   subst e
   have h8 : (⟨ad.block, ad.off + 1, none⟩ : Addr) = ad.add 1 := by unfold Addr.add; rw [if_neg (by omega)]
   rw [h8]
   refine .inr ⟨_, rfl, by rw [add_block]; exact hb, fun j u hu => ?_⟩
   rw [add_add']
   exact hc _ u (by rw [← hu, List.getElem?_drop])
 ·obtain ⟨A', c', e1, e2, e3, e4⟩ := h4 (i + 1) (by simp; omega)
  refine ⟨A', c', ?_, e2, e3, e4⟩
  rw [List.getElem?_drop, Nat.add_comm 1 i]
  exact e1
theorem RowsIn.one {w : World} {B n c : Nat} {ad ad' : Addr} {rs : List (List Tok)} (h : RowsIn w B (some ad') n rs) (hc : n + 1 ≤ c) : (c = 1 ∧ RowsIn w B (some ad) n rs) ∨ (c ≠ 1 ∧ RowsIn w B (some ad') n rs) := by
 by_cases e : c = 1
 ·refine .inl ⟨e, ?_⟩
  have h0 : n = 0 := by omega
  subst h0
  have h1 : rs = [] := List.eq_nil_of_length_eq_zero h.len
  subst h1
  exact ⟨rfl, [], rfl, .inl rfl, fun i hi => absurd hi (by simp)⟩
 ·exact .inr ⟨e, h⟩
def DispPost (w : World) (q : List UInt8 × List (List UInt8 × List UInt8)) (e : Ending) (w' : World) : Prop := ∃ v, e = .returned (.tuple #[.string (ba q.1), v]) ∧ OwnPars w' w.heap.size v q.2 ∧ Below w.heap.size w w'
theorem disp_fin {w w' : World} {q : List UInt8 × List (List UInt8 × List UInt8)} {f : List UInt8} {ps : List (List UInt8 × List UInt8)} {v : Value} {s : ByteArray} (h : q = (f, ps)) (hs : s = ba f) (ho : OwnPars w' w.heap.size v ps) (hb : Below w.heap.size w w') : DispPost w q (.returned (.tuple #[.string s, v])) w' := by
 subst h; subst hs
 exact ⟨v, rfl, ho, hb⟩
set_option maxRecDepth 100000 in
set_option maxHeartbeats 4000000 in
theorem disp_any (l : List UInt8) (w : World) (hl : l.length ≤ 10000000) (hT : Tabs w) :
  Calls Tryz.prog 101 #[.string (ba l)] w (DispPost w (dispT l)) := by
 have HT := Lib.hid hT
 have HOK := Lib.hid (tokRows_ok l)
 have HRA := Lib.hid (rows_any l w (by omega))
 obtain ⟨r, rs, hrs⟩ := rows_first l
 have HD0 := Lib.hid (show ∀ f, smallP (joinP r) = f → dispT l = (if isWord f = true then f else [], paramsP rs) from fun f hf => by
  subst hf
  unfold dispT
  rw [hrs]
  rfl)
 rw [hrs] at HOK HRA
 unfold RowsPost at HRA
 have hrl := HOK.out.1 r (List.mem_cons_self ..)
 have hnl := HOK.out.2
 clear hT hrs
 go_enter Tryz.func101, Tryz.ntmps101
 go_wp2_with fail
 refine HRA.out.mono ?_
 rintro e w1 ⟨v1, xs, rfl, hra, hb1⟩
 obtain ⟨A1, c1, rfl, hc1, hc2, hin⟩ := hra.rows
 have HIN := Lib.hid hin
 have HB1 := Lib.hid hb1
 obtain ⟨ad, A2, c2, rfl, hbl, hcell, hc3, hc4, htk⟩ := hin.first
 have HTK := Lib.hid htk
 have HC34 := Lib.hid (And.intro hc3 hc4)
 have HC12 := Lib.hid (And.intro hc1 hc2)
 clear hra hb1 hin htk hc3 hc4
 have hl1 : (r :: rs).length = rs.length + 1 := rfl
 rw [hl1] at hc1 HIN hnl ⊢
 have HCUT := Lib.hid HIN.out.tail
 obtain ⟨m, hm⟩ : ∃ m, rs.length = m := ⟨_, rfl⟩
 rw [hm] at HCUT HIN hc1 hnl
 rw [hm]
 have HNL := Lib.hid hnl
 clear hl1 hm HC12
 go_wp2_with fail
 refine (tjoin_any r A2 r.length c2 w1 HTK.out (by omega) (by omega)).mono ?_
 rintro e w2 ⟨rfl, hb2⟩
 have HB2 := Lib.hid hb2
 clear hb2
 go_wp2_with fail
 refine (csmall_any (joinP r) w2 (by omega)).mono ?_
 rintro e w3 ⟨rfl, hb3⟩
 have HB3 := Lib.hid (show Below w1.heap.size w1 w3 from HB2.out.trans (hb3.mono HB2.out.size))
 clear hb3
 obtain ⟨f, hf⟩ : ∃ f, smallP (joinP r) = f := ⟨_, rfl⟩
 have hfl : f.length ≤ 1000000000 := by rw [← hf, smallP_len]; omega
 have HD := Lib.hid (HD0.out f hf)
 rw [hf]
 have HW := Lib.hid (word_any f w3 hfl)
 clear hf
 rcases HCUT.out.one (ad := ad) hc1 with ⟨hcc, hin9⟩ | ⟨hcc, hin9⟩
 ·have HIN9 := Lib.hid hin9
  subst hcc
  have hm0 : m = 0 := by omega
  subst hm0
  clear hin9 hc1
  have HLI := Lib.hid (show ∀ W, Below w3.heap.size w3 W → _ from fun W hW => list_any rs (some ad) 0 0 W ((HIN9.out.below (HB3.out.trans (hW.mono HB3.out.size))).more (Nat.le_trans HB3.out.size hW.size)) (by have := HNL.out; omega) (fun r hr => by have := HOK.out.1 r (List.mem_cons_of_mem _ hr); omega) (HT.out.below (HB1.out.trans ((HB3.out.trans (hW.mono HB3.out.size)).mono HB1.out.size))))
  by_cases hw : isWord f = true
  ·rw [hw] at HW
   rw [if_pos hw] at HD
   clear hw
   go_wp2_with fail
   refine HW.out.mono ?_
   rintro e w4 ⟨rfl, hw4⟩
   have hw5 := hw4.symm
   subst hw5
   clear hw4
   go_wp2_with fail
   refine (HLI.out w3 (Below.refl _ _)).mono ?_
   rintro e w5 ⟨v5, rfl, ho5, hb5⟩
   have HO5 := Lib.hid (ho5.more (Nat.le_trans HB1.out.size HB3.out.size))
   have HB5 := Lib.hid (HB1.out.trans ((HB3.out.trans (hb5.mono HB3.out.size)).mono HB1.out.size))
   clear ho5 hb5
   go_wp2
   go_ret2
   exact disp_fin HD.out rfl HO5.out HB5.out
  ·have hw2 : isWord f = false := by simpa using hw
   rw [hw2] at HW
   rw [if_neg hw] at HD
   clear hw hw2
   go_wp2_with fail
   refine HW.out.mono ?_
   rintro e w4 ⟨rfl, hw4⟩
   have hw5 := hw4.symm
   subst hw5
   clear hw4
   go_wp2_with fail
   refine (HLI.out w3 (Below.refl _ _)).mono ?_
   rintro e w5 ⟨v5, rfl, ho5, hb5⟩
   have HO5 := Lib.hid (ho5.more (Nat.le_trans HB1.out.size HB3.out.size))
   have HB5 := Lib.hid (HB1.out.trans ((HB3.out.trans (hb5.mono HB3.out.size)).mono HB1.out.size))
   clear ho5 hb5
   go_wp2
   go_ret2
   exact disp_fin HD.out rfl HO5.out HB5.out
 ·have HIN9 := Lib.hid hin9
  clear hin9
  have HLI := Lib.hid (show ∀ W, Below w3.heap.size w3 W → _ from fun W hW => list_any rs (some ⟨ad.block, ad.off + 1, none⟩) m (c1 - 1) W ((HIN9.out.below (HB3.out.trans (hW.mono HB3.out.size))).more (Nat.le_trans HB3.out.size hW.size)) (by have := HNL.out; omega) (fun r hr => by have := HOK.out.1 r (List.mem_cons_of_mem _ hr); omega) (HT.out.below (HB1.out.trans ((HB3.out.trans (hW.mono HB3.out.size)).mono HB1.out.size))))
  by_cases hw : isWord f = true
  ·rw [hw] at HW
   rw [if_pos hw] at HD
   clear hw
   go_wp2_with fail
   refine HW.out.mono ?_
   rintro e w4 ⟨rfl, hw4⟩
   have hw5 := hw4.symm
   subst hw5
   clear hw4
   go_wp2_with fail
   refine (HLI.out w3 (Below.refl _ _)).mono ?_
   rintro e w5 ⟨v5, rfl, ho5, hb5⟩
   have HO5 := Lib.hid (ho5.more (Nat.le_trans HB1.out.size HB3.out.size))
   have HB5 := Lib.hid (HB1.out.trans ((HB3.out.trans (hb5.mono HB3.out.size)).mono HB1.out.size))
   clear ho5 hb5
   go_wp2
   go_ret2
   exact disp_fin HD.out rfl HO5.out HB5.out
  ·have hw2 : isWord f = false := by simpa using hw
   rw [hw2] at HW
   rw [if_neg hw] at HD
   clear hw hw2
   go_wp2_with fail
   refine HW.out.mono ?_
   rintro e w4 ⟨rfl, hw4⟩
   have hw5 := hw4.symm
   subst hw5
   clear hw4
   go_wp2_with fail
   refine (HLI.out w3 (Below.refl _ _)).mono ?_
   rintro e w5 ⟨v5, rfl, ho5, hb5⟩
   have HO5 := Lib.hid (ho5.more (Nat.le_trans HB1.out.size HB3.out.size))
   have HB5 := Lib.hid (HB1.out.trans ((HB3.out.trans (hb5.mono HB3.out.size)).mono HB1.out.size))
   clear ho5 hb5
   go_wp2
   go_ret2
   exact disp_fin HD.out rfl HO5.out HB5.out
def ParPost (w : World) (o : Option (List UInt8)) (e : Ending) (w' : World) : Prop := e = .returned (.tuple #[.string (ba (o.getD [])), .bool o.isSome]) ∧ Below w.heap.size w w'
theorem par_end {w w' : World} {o : Option (List UInt8)} {v : List UInt8} {s : ByteArray} (h : o = some v) (hs : s = ba v) (hb : Below w.heap.size w w') : ParPost w o (.returned (.tuple #[.string s, .bool true])) w' := by
 subst h; subst hs
 exact ⟨rfl, hb⟩
theorem par_end0 {w w' : World} {o : Option (List UInt8)} (h : o = none) (hb : Below w.heap.size w w') : ParPost w o (.returned (.tuple #[.string ⟨#[]⟩, .bool false])) w' := by
 subst h
 exact ⟨rfl, hb⟩
structure PmRel (w : World) (ps : List (List UInt8 × List UInt8)) (name : List UInt8) (k : Nat) (wr : World) : Prop where
 eq : paramT ps name = paramT (ps.drop k) name
 bel : Below w.heap.size w wr
set_option maxRecDepth 100000 in
set_option maxHeartbeats 1000000 in
theorem param_any (ps : List (List UInt8 × List UInt8)) (name : List UInt8) (A : Option Addr) (n c : Nat) (w : World) (hP : Pars w w.heap.size A n ps) (hn : n ≤ 1000000000) (hs : ∀ p ∈ ps, p.1.length ≤ 1000000000) (hl : name.length ≤ 1000000000) :
  Calls Tryz.prog 42 #[.slice A n c, .string (ba name)] w (ParPost w (paramT ps name)) := by
 have HP := Lib.hid hP
 have HS := Lib.hid hs
 have HN := Lib.hid hP.len
 clear hP hs
 go_enter Tryz.func42, Tryz.ntmps42
 go_wp2
 go_loopw [10] (fun i wr => ∃ k : Nat, k ≤ n ∧ i = .int .i64 (k : Int) ∧ Hid (PmRel w ps name k wr)) (fun i _ => n - (intOf i).toNat)
 case atStart => exact ⟨0, Nat.zero_le _, rfl, Lib.hid ⟨rfl, Below.refl _ _⟩⟩
 case round =>
  obtain ⟨k, hk, rfl, HR⟩ := hrel
  have hsz := HR.out.bel.size
  by_cases hlt : k < n
  ·have hk2 : (k : Int) < n := by omega
   have hkl : k < ps.length := by rw [HN.out]; exact hlt
   obtain ⟨ad, rfl, hbl, c0, c1, -⟩ := (HP.out.below HR.out.bel).2 k hkl
   have hpl := HS.out _ (List.getElem_mem hkl)
   have heq := HR.out.eq
   rw [List.drop_eq_getElem_cons hkl] at heq
   have HBE := Lib.hid HR.out.bel
   obtain ⟨p, hp⟩ : ∃ p, ps[k] = p := ⟨_, rfl⟩
   rw [hp] at c0 c1 hpl heq
   obtain ⟨p1, p2⟩ := p
   have hpl1 : p1.length ≤ 1000000000 := hpl
   have d0 : wr.cell? (ad.add (k * 2)) = some (.string (ba p1)) := c0
   have d1 : wr.cell? ⟨(ad.add (k * 2)).block, (ad.add (k * 2)).off + 1, none⟩ = some (.string (ba p2)) := c1
   have HST := Lib.hid (show paramT ((p1, p2) :: ps.drop (k + 1)) name = if smallP p1 = smallP name then some p2 else paramT (ps.drop (k + 1)) name from by
    unfold paramT
    rw [List.find?_cons]
    by_cases h : smallP p1 = smallP name
    ·rw [if_pos h, decide_eq_true h]; rfl
    ·rw [if_neg h, decide_eq_false h])
   have HEQ := Lib.hid heq
   have HB1 := Lib.hid (HBE.out.alloc hsz (.cells #[.string (ba p1), .string (ba p2)] 30))
   have HSA := Lib.hid (fun W => csmall_any p1 W hpl1)
   have HSN := Lib.hid (fun W => csmall_any name W hl)
   unfold StrB at HSA HSN
   obtain ⟨a1, ha1⟩ : ∃ a, smallP p1 = a := ⟨_, rfl⟩
   obtain ⟨b1, hb1⟩ : ∃ a, smallP name = a := ⟨_, rfl⟩
   simp only [ha1] at HSA
   simp only [hb1] at HSN
   rw [ha1, hb1] at HST
   clear hp hpl hkl hbl c0 c1 heq hpl1 ha1 hb1 HR
   by_cases he : a1 = b1
   ·subst he
    have HF := Lib.hid (show paramT ps name = some p2 by rw [HEQ.out, HST.out, if_pos rfl])
    go_wp2_with fail
    refine (HSA.out _).mono ?_
    rintro e w2 ⟨rfl, hb2⟩
    have e1 : w2.cell? ⟨wr.heap.size, 1, none⟩ = some (.string (ba p2)) := (hb2.cell (p := ⟨wr.heap.size, 1, none⟩) (by simp)).trans (by go_simp)
    have HB2 := Lib.hid (HB1.out.trans (hb2.mono HB1.out.size))
    have hz2 : wr.heap.size < w2.heap.size := by have := hb2.size; simp at this; omega
    clear hb2
    go_wp2_with fail
    refine (HSN.out _).mono ?_
    rintro e w3 ⟨rfl, hb3⟩
    have e2 : w3.cell? ⟨wr.heap.size, 1, none⟩ = some (.string (ba p2)) := (hb3.cell (p := ⟨wr.heap.size, 1, none⟩) (by show wr.heap.size < _; omega)).trans e1
    have HB3 := Lib.hid (HB2.out.trans (hb3.mono HB2.out.size))
    clear hb3
    go_wp2
    go_ret2
    exact par_end HF.out rfl HB3.out
   ·have g2 : ((ba a1).toList == (ba b1).toList) = false := by rw [ba_toList, ba_toList]; simpa using he
    have g3 : ¬ (ba a1).toList = (ba b1).toList := by rw [ba_toList, ba_toList]; exact he
    have g4 : ¬ ba a1 = ba b1 := fun h => he (ba_inj.1 h)
    have HF := Lib.hid (show paramT ps name = paramT (ps.drop (k + 1)) name by rw [HEQ.out, HST.out, if_neg he])
    clear he
    go_wp2_with fail
    refine (HSA.out _).mono ?_
    rintro e w2 ⟨rfl, hb2⟩
    have HB2 := Lib.hid (HB1.out.trans (hb2.mono HB1.out.size))
    clear hb2
    go_wp2_with fail
    refine (HSN.out _).mono ?_
    rintro e w3 ⟨rfl, hb3⟩
    have HB3 := Lib.hid (HB2.out.trans (hb3.mono HB2.out.size))
    clear hb3
    go_wp2
    go_roundw
    case rel => exact ⟨k + 1, by omega, by go_num, Lib.hid ⟨HF.out, HB3.out⟩⟩
    case measure => simp [intOf] <;> omega
  ·obtain rfl : k = n := by omega
   have HF := Lib.hid (show paramT ps name = none by
    rw [HR.out.eq, List.drop_of_length_le (by rw [HN.out]; exact Nat.le_refl _)]
    rfl)
   have HB := Lib.hid HR.out.bel
   clear HR
   go_wp2
   go_ret2
   exact par_end0 HF.out HB.out
end Go.Proofs.YthidbmeaccpjdaaGreatDoor
end
section
namespace Go.Proofs.YthidbmeaccpjdaaGreatDoor
open Go.RowKit
set_option linter.unusedVariables false
def TypPost (w : World) (q : Typ × Bool) (e : Ending) (w' : World) : Prop := ∃ v, e = .returned (.tuple #[.agg #[.string (ba q.1.kind), .string (ba q.1.sub), v], .bool q.2]) ∧ OwnPars w' w.heap.size v q.1.params ∧ Below w.heap.size w w'
def plainT : Typ × Bool := (⟨[116, 101, 120, 116], [112, 108, 97, 105, 110], []⟩, false)
theorem parseT_eq (l : List UInt8) {r : List Tok} {rs : List (List Tok)} (h : tokRows l = r :: rs) : parseT l =
  if (cutV 47 (joinP r)).2.2 = true ∧ isWord (cutV 47 (joinP r)).1 = true ∧ isWord (cutV 47 (joinP r)).2.1 = true then (⟨smallP (cutV 47 (joinP r)).1, smallP (cutV 47 (joinP r)).2.1, paramsP rs⟩, true) else plainT := by
 unfold parseT cutV
 rw [h]
 simp only [List.headD_cons, List.drop_one, List.tail_cons]
 cases cutP 47 (joinP r) with
 | none => simp [plainT]
 | some q =>
  show (if isWord q.1 = true ∧ isWord q.2 = true then _ else _) = _
  by_cases h2 : isWord q.1 = true ∧ isWord q.2 = true
  ·rw [if_pos h2, if_pos ⟨rfl, h2⟩]
  ·rw [if_neg h2, if_neg fun h3 => h2 h3.2]
   rfl
theorem cells_at {W : World} {b : Nat} {cs : Array Value} {t : TypeId} (h : W.heap[b]? = some (.cells cs t)) (i : Nat) {u : Value} (hu : cs[i]? = some u) : W.cell? ⟨b, i, none⟩ = some u := by
 unfold World.cell?
 simp [h, hu]
theorem cells_free {W : World} {b : Nat} {cs : Array Value} {t : TypeId} (h : W.heap[b]? = some (.cells cs t)) (i : Nat) : W.frozen? ⟨b, i, none⟩ = false := by
 simp [World.frozen?, h]
theorem own_set3 {W : World} {B C k : Nat} {v : Value} {ps : List (List UInt8 × List UInt8)} (h : OwnPars W B v ps) (h2 : OwnPars W C v ps) (hk : k < C) (a b c : Value) : OwnPars (((W.setCell ⟨k, 0, none⟩ a).setCell ⟨k, 1, none⟩ b).setCell ⟨k, 2, none⟩ c) B v ps := h.block fun q e => by
 have hq : q ≠ k := by have := (h2.row.lt q e).1; omega
 rw [heap_setCell_other _ ⟨k, 2, none⟩ q _ hq, heap_setCell_other _ ⟨k, 1, none⟩ q _ hq, heap_setCell_other _ ⟨k, 0, none⟩ q _ hq]
theorem typ_fin {w w' : World} {q : Typ × Bool} {f g : List UInt8} {ps : List (List UInt8 × List UInt8)} {v : Value} {s t : ByteArray} {b : Bool} (h : q = (⟨f, g, ps⟩, b)) (hs : s = ba f) (ht : t = ba g) (ho : OwnPars w' w.heap.size v ps) (hb : Below w.heap.size w w') : TypPost w q (.returned (.tuple #[.agg #[.string s, .string t, v], .bool b])) w' := by
 subst h; subst hs; subst ht
 exact ⟨v, rfl, ho, hb⟩
theorem typ_plain {w w' : World} {q : Typ × Bool} (h : q = plainT) (ho : OwnPars w' w.heap.size (.slice none 0 0) []) (hb : Below w.heap.size w w') : TypPost w q (.returned (.tuple #[.agg #[.string ⟨#[116, 101, 120, 116]⟩, .string ⟨#[112, 108, 97, 105, 110]⟩, .slice none 0 0], .bool false])) w' := typ_fin h rfl rfl ho hb
set_option maxRecDepth 100000 in
set_option maxHeartbeats 1000000 in
theorem parse_any (l : List UInt8) (w : World) (hl : l.length ≤ 10000000) (hT : Tabs w) :
  Calls Tryz.prog 76 #[.string (ba l)] w (TypPost w (parseT l)) := by
 have HT := Lib.hid hT
 have HOK := Lib.hid (tokRows_ok l)
 obtain ⟨r, rs, hrs⟩ := rows_first l
 have HPT := Lib.hid (parseT_eq l hrs)
 have HRA := Lib.hid (fun W => rows_any l W (by omega))
 rw [hrs] at HOK
 simp only [hrs] at HRA
 unfold RowsPost at HRA
 have hrl := HOK.out.1 r (List.mem_cons_self ..)
 have hnl := HOK.out.2
 obtain ⟨⟨x, y, b⟩, hcv⟩ : ∃ q, cutV 47 (joinP r) = q := ⟨_, rfl⟩
 have hcl := cutV_len 47 (joinP r)
 rw [hcv] at HPT hcl
 have hxl : x.length ≤ 10000000 := by have h1 : x.length ≤ (joinP r).length := hcl.1; omega
 have hyl : y.length ≤ 10000000 := by have h1 : y.length ≤ (joinP r).length := hcl.2; omega
 have HCV := Lib.hid hcv
 have hB0 : Below w.heap.size w (w.alloc (.cells #[.string ⟨#[]⟩, .string ⟨#[]⟩, .slice none 0 0] 24)) := (Below.refl _ _).alloc (Nat.le_refl _) _
 have HB0 := Lib.hid hB0
 clear hT hrs hcl hcv hB0
 go_enter Tryz.func76, Tryz.ntmps76
 go_wp2_with fail
 refine (HRA.out _).mono ?_
 rintro e w1 ⟨v1, xs, rfl, hra, hb1⟩
 have hz1 : w.heap.size + 1 ≤ w1.heap.size := by have := hb1.size; simp at this; exact this
 have HBX1 := Lib.hid (show w1.heap[w.heap.size]? = some (.cells #[.string ⟨#[]⟩, .string ⟨#[]⟩, .slice none 0 0] 24) from (hb1.block w.heap.size (by simp)).trans (MapKept.heap_alloc w _).1)
 have HB1 := Lib.hid (HB0.out.trans (hb1.mono (by simp)))
 obtain ⟨A1, c1, rfl, hc1, hc2, hin⟩ := hra.rows
 have HIN := Lib.hid hin
 obtain ⟨ad, A2, c2, rfl, hbl, hcell, hc3, hc4, htk⟩ := hin.first
 have HTK := Lib.hid htk
 clear hra hb1 hin htk hc3 hc4
 have hl1 : (r :: rs).length = rs.length + 1 := rfl
 rw [hl1] at hc1 HIN hnl ⊢
 have HCUT := Lib.hid HIN.out.tail
 obtain ⟨m, hm⟩ : ∃ m, rs.length = m := ⟨_, rfl⟩
 rw [hm] at HCUT HIN hc1 hnl
 rw [hm]
 have HNL := Lib.hid hnl
 clear hl1 hm
 go_wp2_with fail
 refine (tjoin_any r A2 r.length c2 w1 HTK.out (by omega) (by omega)).mono ?_
 rintro e w2 ⟨rfl, hb2⟩
 have HB2 := Lib.hid hb2
 clear hb2
 go_wp2_with fail
 refine (cut_any 47 (joinP r) w2 (by omega) (HT.out.below (HB1.out.trans (HB2.out.mono HB1.out.size)))).mono ?_
 unfold CutPost
 rw [HCV.out]
 rintro e w3 ⟨rfl, nn, hw3⟩
 have hb3 : Below w1.heap.size w1 w3 := by rw [hw3]; exact below_drewN HB2.out nn
 have HB3 := Lib.hid hb3
 have HBX3 := Lib.hid ((hb3.block w.heap.size (by omega)).trans HBX1.out)
 have hz3 : w1.heap.size ≤ w3.heap.size := hb3.size
 clear hw3 hb3
 have d0 := cells_at HBX3.out 0 (u := .string ⟨#[]⟩) rfl
 have d1 := cells_at HBX3.out 1 (u := .string ⟨#[]⟩) rfl
 have d2 := cells_at HBX3.out 2 (u := .slice none 0 0) rfl
 have e0 := cells_free HBX3.out 0
 have e1 := cells_free HBX3.out 1
 have e2 := cells_free HBX3.out 2
 have HB13 := Lib.hid (show Below w.heap.size w w3 from HB1.out.trans (HB3.out.mono HB1.out.size))
 cases b with
 | false =>
  have HF := Lib.hid (show parseT l = plainT by rw [HPT.out, if_neg (by rintro ⟨h1, h2, h3⟩; cases h1)])
  go_wp2
  refine bodyPost_ret (v := .tuple #[.agg #[.string ⟨#[116, 101, 120, 116]⟩, .string ⟨#[112, 108, 97, 105, 110]⟩, .slice none 0 0], .bool false]) (by simp [results, Tryz.results76, go_sem, d0, d1, d2]) rfl ?_
  exact typ_plain HF.out (OwnPars.nil_ _ _) (((HB13.out.setCell (Nat.le_refl _) _).setCell (Nat.le_refl _) _).setCell (Nat.le_refl _) _)
 | true =>
  rcases Bool.eq_false_or_eq_true (isWord x) with hx | hx
  ·rcases Bool.eq_false_or_eq_true (isWord y) with hy | hy
   ·have HF := Lib.hid (show parseT l = (⟨smallP x, smallP y, paramsP rs⟩, true) by rw [HPT.out, if_pos ⟨rfl, hx, hy⟩])
    go_wp2_with fail
    refine (word_any x w3 (by omega)).mono ?_
    rintro e w4 ⟨he4, hw4⟩
    rw [hx] at he4
    subst he4
    have hw5 := hw4.symm
    subst hw5
    clear hw4
    go_wp2_with fail
    refine (word_any y w3 (by omega)).mono ?_
    rintro e w4 ⟨he4, hw4⟩
    rw [hy] at he4
    subst he4
    have hw5 := hw4.symm
    subst hw5
    clear hw4
    have HLI : Hid (∀ W, Below w3.heap.size w3 W → ∀ A9 n9 c9, (Value.slice A9 n9 c9 = .slice (some ⟨ad.block, ad.off + 1, none⟩) m (c1 - 1) ∨ (c1 = 1 ∧ Value.slice A9 n9 c9 = .slice (some ad) m 0)) → Calls Tryz.prog 154 #[.slice A9 n9 c9] W (ListPost W (paramsP rs))) := Lib.hid fun W hW A9 n9 c9 h9 => by
     have hb := HB3.out.trans (hW.mono HB3.out.size)
     have hin := (HCUT.out.below hb).more hb.size
     have hT2 := HT.out.below (HB13.out.trans (hW.mono HB13.out.size))
     have hj : ∀ r ∈ rs, (joinP r).length ≤ 10000000 ∧ r.length ≤ 1000000000 := fun r hr => by have := HOK.out.1 r (List.mem_cons_of_mem _ hr); omega
     rcases h9 with h9 | ⟨hc, h9⟩
     ·injection h9 with q1 q2 q3
      subst q1; subst q2; subst q3
      exact list_any rs _ _ _ W hin (by have := HNL.out; omega) hj hT2
     ·injection h9 with q1 q2 q3
      subst q1; subst q2; subst q3
      rcases hin.one (ad := ad) hc1 with ⟨_, h⟩ | ⟨h, _⟩
      ·exact list_any rs _ _ _ W h (by have := HNL.out; omega) hj hT2
      ·exact absurd hc h
    have HW := Lib.hid (show Below w3.heap.size w3 w3.drew from (Below.refl _ _).drew)
    have hxl9 : x.length ≤ 1000000000 := by omega
    have hyl9 : y.length ≤ 1000000000 := by omega
    have HFB := Lib.hid (show ∀ W, Below w3.heap.size w3 W → W.heap[w.heap.size]? = some (.cells #[.string ⟨#[]⟩, .string ⟨#[]⟩, .slice none 0 0] 24) from fun W hW => (hW.block w.heap.size (by omega)).trans HBX3.out)
    by_cases hcc : c1 = 1
    ·subst hcc
     have hm0 : m = 0 := by omega
     subst hm0
     have HLJ := Lib.hid (fun W hW => HLI.out W hW _ _ _ (.inr ⟨rfl, rfl⟩))
     clear hc1 hc2
     go_wp2
     go_region_with
      (first
       | (go_at_call 90; refine (csmall_any _ _ ?_).mono ?_; (first | exact hxl9 | exact hyl9); rintro e w9 ⟨rfl, hb9⟩; (
         have HW2 := Lib.hid (HW.out.trans (hb9.mono HW.out.size))
         (first | (have HO2 := Lib.hid (HO.out.below hb9); clear HO; have HO := HO2; clear HO2) | skip)
         clear HW hb9
         have HW := HW2
         clear HW2
         have p0 := cells_at (HFB.out _ HW.out) 0 (u := .string ⟨#[]⟩) rfl
         have p1 := cells_at (HFB.out _ HW.out) 1 (u := .string ⟨#[]⟩) rfl
         have p2 := cells_at (HFB.out _ HW.out) 2 (u := .slice none 0 0) rfl
         have q0 := cells_free (HFB.out _ HW.out) 0
         have q1 := cells_free (HFB.out _ HW.out) 1
         have q2 := cells_free (HFB.out _ HW.out) 2))
       | (go_at_call 154; refine (HLJ.out _ HW.out).mono ?_; rintro e w9 ⟨v9, rfl, ho9, hb9⟩; (
         obtain ⟨A9, c9, rfl, -, -, -⟩ := ho9.reads
         have HW2 := Lib.hid (HW.out.trans (hb9.mono HW.out.size))
         have HO := Lib.hid (ho9.more HW.out.size)
         clear HW hb9 ho9
         have HW := HW2
         clear HW2
         have p0 := cells_at (HFB.out _ HW.out) 0 (u := .string ⟨#[]⟩) rfl
         have p1 := cells_at (HFB.out _ HW.out) 1 (u := .string ⟨#[]⟩) rfl
         have p2 := cells_at (HFB.out _ HW.out) 2 (u := .slice none 0 0) rfl
         have q0 := cells_free (HFB.out _ HW.out) 0
         have q1 := cells_free (HFB.out _ HW.out) 1
         have q2 := cells_free (HFB.out _ HW.out) 2)))
     all_goals
      go_wp2
      refine bodyPost_ret (v := .tuple #[.agg #[.string (ba (smallP x)), .string (ba (smallP y)), .slice A9 (paramsP rs).length c9], .bool true]) (by simp [results, Tryz.results76, go_sem, p0, p1, p2]) rfl ?_
      exact typ_fin HF.out rfl rfl (own_set3 (HO.out.more (by omega)) HO.out (by omega) _ _ _) ((((HB13.out.trans (HW.out.mono HB13.out.size)).setCell (Nat.le_refl _) _).setCell (Nat.le_refl _) _).setCell (Nat.le_refl _) _)
    ·have HLJ := Lib.hid (fun W hW => HLI.out W hW _ _ _ (.inl rfl))
     go_wp2
     go_region_with
      (first
       | (go_at_call 90; refine (csmall_any _ _ ?_).mono ?_; (first | exact hxl9 | exact hyl9); rintro e w9 ⟨rfl, hb9⟩; (
         have HW2 := Lib.hid (HW.out.trans (hb9.mono HW.out.size))
         (first | (have HO2 := Lib.hid (HO.out.below hb9); clear HO; have HO := HO2; clear HO2) | skip)
         clear HW hb9
         have HW := HW2
         clear HW2
         have p0 := cells_at (HFB.out _ HW.out) 0 (u := .string ⟨#[]⟩) rfl
         have p1 := cells_at (HFB.out _ HW.out) 1 (u := .string ⟨#[]⟩) rfl
         have p2 := cells_at (HFB.out _ HW.out) 2 (u := .slice none 0 0) rfl
         have q0 := cells_free (HFB.out _ HW.out) 0
         have q1 := cells_free (HFB.out _ HW.out) 1
         have q2 := cells_free (HFB.out _ HW.out) 2))
       | (go_at_call 154; refine (HLJ.out _ HW.out).mono ?_; rintro e w9 ⟨v9, rfl, ho9, hb9⟩; (
         obtain ⟨A9, c9, rfl, -, -, -⟩ := ho9.reads
         have HW2 := Lib.hid (HW.out.trans (hb9.mono HW.out.size))
         have HO := Lib.hid (ho9.more HW.out.size)
         clear HW hb9 ho9
         have HW := HW2
         clear HW2
         have p0 := cells_at (HFB.out _ HW.out) 0 (u := .string ⟨#[]⟩) rfl
         have p1 := cells_at (HFB.out _ HW.out) 1 (u := .string ⟨#[]⟩) rfl
         have p2 := cells_at (HFB.out _ HW.out) 2 (u := .slice none 0 0) rfl
         have q0 := cells_free (HFB.out _ HW.out) 0
         have q1 := cells_free (HFB.out _ HW.out) 1
         have q2 := cells_free (HFB.out _ HW.out) 2)))
     all_goals
      go_wp2
      refine bodyPost_ret (v := .tuple #[.agg #[.string (ba (smallP x)), .string (ba (smallP y)), .slice A9 (paramsP rs).length c9], .bool true]) (by simp [results, Tryz.results76, go_sem, p0, p1, p2]) rfl ?_
      exact typ_fin HF.out rfl rfl (own_set3 (HO.out.more (by omega)) HO.out (by omega) _ _ _) ((((HB13.out.trans (HW.out.mono HB13.out.size)).setCell (Nat.le_refl _) _).setCell (Nat.le_refl _) _).setCell (Nat.le_refl _) _)
   ·have HF := Lib.hid (show parseT l = plainT by rw [HPT.out, if_neg (by rintro ⟨h1, h2, h3⟩; rw [hy] at h3; cases h3)])
    go_wp2_with fail
    refine (word_any x w3 (by omega)).mono ?_
    rintro e w4 ⟨he4, hw4⟩
    rw [hx] at he4
    subst he4
    have hw5 := hw4.symm
    subst hw5
    clear hw4
    go_wp2_with fail
    refine (word_any y w3 (by omega)).mono ?_
    rintro e w4 ⟨he4, hw4⟩
    rw [hy] at he4
    subst he4
    have hw5 := hw4.symm
    subst hw5
    clear hw4
    go_wp2
    refine bodyPost_ret (v := .tuple #[.agg #[.string ⟨#[116, 101, 120, 116]⟩, .string ⟨#[112, 108, 97, 105, 110]⟩, .slice none 0 0], .bool false]) (by simp [results, Tryz.results76, go_sem, d0, d1, d2]) rfl ?_
    exact typ_plain HF.out (OwnPars.nil_ _ _) (((HB13.out.setCell (Nat.le_refl _) _).setCell (Nat.le_refl _) _).setCell (Nat.le_refl _) _)
  ·have HF := Lib.hid (show parseT l = plainT by rw [HPT.out, if_neg (by rintro ⟨h1, h2, h3⟩; rw [hx] at h2; cases h2)])
   go_wp2_with fail
   refine (word_any x w3 (by omega)).mono ?_
   rintro e w4 ⟨he4, hw4⟩
   rw [hx] at he4
   subst he4
   have hw5 := hw4.symm
   subst hw5
   clear hw4
   go_wp2
   refine bodyPost_ret (v := .tuple #[.agg #[.string ⟨#[116, 101, 120, 116]⟩, .string ⟨#[112, 108, 97, 105, 110]⟩, .slice none 0 0], .bool false]) (by simp [results, Tryz.results76, go_sem, d0, d1, d2]) rfl ?_
   exact typ_plain HF.out (OwnPars.nil_ _ _) (((HB13.out.setCell (Nat.le_refl _) _).setCell (Nat.le_refl _) _).setCell (Nat.le_refl _) _)
end Go.Proofs.YthidbmeaccpjdaaGreatDoor
end
section
namespace Go.Proofs.YthidbmeaccpjdaaGreatDoor
open Go.RowKit
set_option linter.unusedVariables false
open Go.Shelf
attribute [local go_sem] Oper.semAt_some
def lnR : List (List UInt8) → Nat → List (Nat × Nat)
 | [], _ => []
 | l :: r, a => (a, a + l.length) :: lnR r (a + l.length)
def lnsP (s : List UInt8) (i : Nat) : List (Nat × Nat) := lnR (linesP (s.drop i)) i
theorem lns_end {s : List UInt8} {i : Nat} (h : i < s.length) : lnsP s i = (i, i + endP (s.drop i)) :: lnsP s (i + endP (s.drop i)) := by
 have hne : s.drop i ≠ [] := fun e => by have := congrArg List.length e; rw [List.length_drop] at this; simp at this; omega
 have h1 := endP_le (s.drop i)
 unfold lnsP
 rw [linesP_end hne]
 unfold lnR
 rw [List.length_take, Nat.min_eq_left h1, List.drop_drop]
 cases linesP (List.drop (i + endP (List.drop i s)) s) <;> rfl
theorem lns_nil {s : List UInt8} {i : Nat} (h : s.length ≤ i) : lnsP s i = [] := by
 unfold lnsP
 rw [List.drop_eq_nil_of_le h]
 rfl
def keeps2 (a b : Nat) (A B : World) : Prop := B.heap[a]? = A.heap[a]? ∧ B.heap[b]? = A.heap[b]?
def setsC (a : Nat) (A B : World) : Prop := ∃ v, B = A.setCell ⟨a, 0, none⟩ v
theorem keeps2.sets {a b c : Nat} {A B : World} (h : setsC c A B) (h1 : a ≠ c) (h2 : b ≠ c) : keeps2 a b A B := by
 obtain ⟨v, rfl⟩ := h
 exact ⟨Go.RowKit.Below.heap_setCell _ _ _ _ h1, Go.RowKit.Below.heap_setCell _ _ _ _ h2⟩
structure LnSt (s : List UInt8) (bf bs i : Nat) (J : List (Nat × Nat) → World → Prop) (k : Nat) (pre : List (Nat × Nat)) (W : World) : Prop where
 eq : pre ++ lnsP s k = lnsP s i
 le : k ≤ s.length
 j : J pre W
 hf : W.heap[bf]? = some (.cells #[.int .i64 (k : Int)] 3 (0, 0))
 hs : W.heap[bs]? = some (.cells #[.string (ba s)] 9 (0, 0))
theorem LnSt.next {s : List UInt8} {bf bs i : Nat} {J : List (Nat × Nat) → World → Prop} {k : Nat} {pre : List (Nat × Nat)} {W W' : World} (h : LnSt s bf bs i J k pre W) (hne : bf ≠ bs) (hJ : ∀ s A B, J s A → setsC bf A B → J s B)
  (hk : keeps2 bf bs W W') {t : Nat} (ht : k + endP (s.drop k) = t) (hl : k < s.length) (hj : J (pre ++ [(k, t)]) W') : LnSt s bf bs i J t (pre ++ [(k, t)]) (W'.setCell ⟨bf, 0, none⟩ (.int .i64 (t : Int))) := by
 subst ht
 refine ⟨?_, ?_, hJ _ _ _ hj ⟨_, rfl⟩, ?_, ?_⟩
 ·rw [List.append_assoc, ← h.eq, lns_end hl]
  rfl
 ·have := endP_le (s.drop k)
  rw [List.length_drop] at this
  omega
 ·exact Lib.heap_setCell_same (i := 0) (hk.1.trans h.hf) _
 ·exact (Go.RowKit.Below.heap_setCell _ _ _ _ (fun e => hne e.symm)).trans (hk.2.trans h.hs)
set_option maxRecDepth 100000 in
set_option maxHeartbeats 4000000 in
theorem lines1_in (l bf bs i : Nat) (s : List UInt8) (J Jx : List (Nat × Nat) → World → Prop) (hl : s.length ≤ 1000000000) (hi : i ≤ s.length) (hne : bf ≠ bs) (hJ : ∀ s A B, J s A → setsC bf A B → J s B)
  (hY : ∀ pre x W, J pre W → pre.length < (lnsP s i).length → x.1 ≤ x.2 → x.2 ≤ s.length → YieldAt Fence.wide 7 Tryz.prog l #[.int .i64 (x.1 : Nat), .int .i64 (x.2 : Nat)] W fun e W' =>
   (e = .returned (.bool true) ∧ J (pre ++ [x]) W' ∧ keeps2 bf bs W W') ∨ (e = .returned (.bool false) ∧ Jx (pre ++ [x]) W'))
  (W : World) (hf : W.heap[bf]? = some (.cells #[.int .i64 (i : Int)] 3 (0, 0))) (hs : W.heap[bs]? = some (.cells #[.string (ba s)] 9 (0, 0))) (h0 : J [] W) :
  CallsIn Fence.wide 8 Tryz.prog 193 #[.func (.yield l) #[] #[], .pointer (some ⟨bf, 0, none⟩), .pointer (some ⟨bs, 0, none⟩)] W fun e W' => (∃ v, e = .returned v) ∧
   ((∃ ys, ys = lnsP s i ∧ J ys W') ∨ (∃ pre, pre <+: lnsP s i ∧ Jx pre W')) := by
 have HY := Lib.hid hY
 have HJ := Lib.hid hJ
 have HNE := Lib.hid hne
 have H0 := Lib.hid (show LnSt s bf bs i J i [] W from ⟨rfl, hi, h0, hf, hs⟩)
 clear hY hJ h0 hf hs hi hne
 refine callsIn_of_wp Tryz.func193 rfl trivial ?_ rfl
 simp only [Tryz.ntmps193, List.size_toArray, List.length_cons, List.length_nil, Nat.reduceAdd, Nat.reduceSub, Array.replicate_succ, Array.replicate_zero, List.push_toArray, List.append_toArray, List.nil_append, List.cons_append]
 gi_wp2
 gi_loopw [4, 5] (fun a b wr => ∃ (k : Nat) (pre : List (Nat × Nat)) (y z : Value), a = y ∧ b = z ∧ Hid (LnSt s bf bs i J k pre wr)) (fun _ _ wr => s.length - (intOf ((wr.cell? ⟨bf, 0, none⟩).getD undef)).toNat)
 case atStart => exact ⟨i, [], _, _, rfl, rfl, H0⟩
 case round =>
  obtain ⟨k, pre, y, z, rfl, rfl, HR⟩ := hrel
  have c0 := cells_at HR.out.hf 0 (u := .int .i64 (k : Int)) rfl
  have c1 := cells_at HR.out.hs 0 (u := .string (ba s)) rfl
  have f0 := cells_free HR.out.hf 0
  have hkl := HR.out.le
  have hz0 : ((ba s).size : Int) = (s.length : Int) := by rw [ba_size]
  by_cases hlt : k < s.length
  ·have hk2 : (k : Int) < (s.length : Int) := by omega
   have hk3 : (s.length : Int) ≤ 1000000000 := by omega
   have hx1 : (ba s).extract k (ba s).size = ba (s.drop k) := ba_drop _ _
   have HE := Lib.hid (lns_end hlt)
   have hIX := fun w => indexb_any 10 (s.drop k) w
   simp only [indexV] at hIX
   have HIX := Lib.hid hIX
   clear hIX
   have HLEN := Lib.hid (show pre.length < (lnsP s i).length by rw [← HR.out.eq, lns_end hlt, List.length_append, List.length_cons]; omega)
   cases hc : cutP 10 (s.drop k) with
   | none =>
    have HF := Lib.hid (show k + endP (s.drop k) = s.length by unfold endP; rw [hc]; dsimp only; rw [List.length_drop]; omega)
    rw [hc] at HIX
    dsimp only at HIX
    clear hc
    gi_wp2_with fail
    refine ⟨trivial, ?_⟩
    refine (callsIn_wide.2 (HIX.out _)).mono ?_
    rintro e w2 ⟨rfl, rfl⟩
    obtain ⟨fn, tmps, assign, body, hy, hR⟩ := HY.out _ (k, s.length) _ HR.out.j HLEN.out hkl (Nat.le_refl _)
    gi_wp2_with fail
    refine hR.mono ?_
    rintro e W4 (⟨rfl, hJ4, hk4⟩ | ⟨rfl, hJ4⟩)
    ·have HN := Lib.hid (HR.out.next HNE.out HJ.out hk4 HF.out hlt hJ4)
     have d0 := cells_at (hk4.1.trans HR.out.hf) 0 (u := .int .i64 (k : Int)) rfl
     have d1 := cells_at (hk4.2.trans HR.out.hs) 0 (u := .string (ba s)) rfl
     have e0 := cells_free (hk4.1.trans HR.out.hf) 0
     have HM := Lib.hid (cells_at HN.out.hf 0 (u := .int .i64 ((s.length : Nat) : Int)) rfl)
     have HC0 := Lib.hid c0
     clear hk4 hJ4 hR hy c0
     gi_wp2
     go_roundw
     case rel => exact ⟨s.length, pre ++ [(k, s.length)], _, _, rfl, rfl, HN⟩
     case measure => rw [HM.out, HC0.out]; simp [intOf] <;> omega
    ·have HX := Lib.hid hJ4
     have HP := Lib.hid (show pre ++ [(k, s.length)] <+: lnsP s i from ⟨lnsP s s.length, by rw [← HR.out.eq, HE.out, HF.out]; simp⟩)
     clear hR hy hJ4
     gi_wp2
     refine bodyPost_ret (results_none rfl _ _ _) rfl ?_
     exact ⟨⟨_, rfl⟩, .inr ⟨_, HP.out, HX.out⟩⟩
   | some q =>
    have hq := congrArg List.length (cutP_some (a := q.1) (b := q.2) hc).1
    rw [List.length_append, List.length_cons, List.length_drop] at hq
    obtain ⟨t, ht⟩ : ∃ t, k + (q.1.length + 1) = t := ⟨_, rfl⟩
    have HF := Lib.hid (show k + endP (s.drop k) = t by unfold endP; rw [hc]; exact ht)
    rw [hc] at HIX
    dsimp only at HIX
    obtain ⟨m, hm⟩ : ∃ m, q.1.length = m := ⟨_, rfl⟩
    rw [hm] at HIX hq ht
    have htl : t ≤ s.length := by omega
    have htk : k < t := by omega
    have htn : (k : Int) + (m : Int) + 1 = (t : Int) := by omega
    have hti : (t : Int) ≤ 1000000000 := by omega
    have h1 : (-1 : Int) ≠ (m : Int) := by omega
    clear hc hm hq
    gi_wp2_with fail
    refine ⟨trivial, ?_⟩
    refine (callsIn_wide.2 (HIX.out _)).mono ?_
    rintro e w2 ⟨rfl, rfl⟩
    obtain ⟨fn, tmps, assign, body, hy, hR⟩ := HY.out _ (k, t) _ HR.out.j HLEN.out (Nat.le_of_lt htk) htl
    gi_wp2_with fail
    refine hR.mono ?_
    rintro e W4 (⟨rfl, hJ4, hk4⟩ | ⟨rfl, hJ4⟩)
    ·have HN := Lib.hid (HR.out.next HNE.out HJ.out hk4 HF.out hlt hJ4)
     have d0 := cells_at (hk4.1.trans HR.out.hf) 0 (u := .int .i64 (k : Int)) rfl
     have d1 := cells_at (hk4.2.trans HR.out.hs) 0 (u := .string (ba s)) rfl
     have e0 := cells_free (hk4.1.trans HR.out.hf) 0
     have HM := Lib.hid (cells_at HN.out.hf 0 (u := .int .i64 ((t : Nat) : Int)) rfl)
     have HC0 := Lib.hid c0
     clear hk4 hJ4 hR hy c0
     gi_wp2
     go_roundw
     case rel => exact ⟨t, pre ++ [(k, t)], _, _, rfl, rfl, HN⟩
     case measure => rw [HM.out, HC0.out]; simp [intOf] <;> omega
    ·have HX := Lib.hid hJ4
     have HP := Lib.hid (show pre ++ [(k, t)] <+: lnsP s i from ⟨lnsP s t, by rw [← HR.out.eq, HE.out, HF.out]; simp⟩)
     clear hR hy hJ4
     gi_wp2
     refine bodyPost_ret (results_none rfl _ _ _) rfl ?_
     exact ⟨⟨_, rfl⟩, .inr ⟨_, HP.out, HX.out⟩⟩
  ·obtain rfl : k = s.length := by omega
   have HD := Lib.hid (show pre = lnsP s i by rw [← HR.out.eq, lns_nil (Nat.le_refl _), List.append_nil])
   have HJJ := Lib.hid HR.out.j
   gi_wp2
   go_end0
   exact ⟨⟨_, rfl⟩, .inl ⟨_, HD.out, HJJ.out⟩⟩
end Go.Proofs.YthidbmeaccpjdaaGreatDoor
end
