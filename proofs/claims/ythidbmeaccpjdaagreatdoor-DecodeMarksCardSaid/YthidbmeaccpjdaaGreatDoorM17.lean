/- Layer 12, plain: what Line and Write lay is read back by Parse and Disposition. Layer 12: the contract of rows. -/
import Derived.IntWalk
import Derived.Deep.RegionLaw
import Derived.Test.YthidbmeaccpjdaaGreatDoorM16
import Derived.Test.YthidbmeaccpjdaaGreatDoorM08
import Derived.Test.YthidbmeaccpjdaaGreatDoorM12
import Derived.Test.YthidbmeaccpjdaaGreatDoorM05
import Derived.Test.YthidbmeaccpjdaaGreatDoorM15
namespace Go.Proofs.YthidbmeaccpjdaaGreatDoor
open Go.RowKit
set_option linter.unusedVariables false
set_option maxHeartbeats 4000000
def RunTok (x : Tok) : Prop := x.kind = 1 ∨ (x.kind = 4 ∧ x.text = [46])
theorem RunTok.keep {x : Tok} (h : RunTok x) : keepB x = true ∧ semiB x = false := by
 unfold keepB semiB
 rcases h with h | ⟨h, h2⟩
 ·rw [h]; exact ⟨rfl, rfl⟩
 ·rw [h, h2]; exact ⟨rfl, rfl⟩
def plainV (v : List UInt8) : Prop := v ≠ [] ∧ allB 33 plainBut v = true
instance (v : List UInt8) : Decidable (plainV v) := inferInstanceAs (Decidable (_ ∧ _))
structure GoodP (p : List UInt8 × List UInt8) : Prop where
 word : isWord p.1 = true
 dot : (46 : UInt8) ∉ p.1
 low : smallP p.1 = p.1
 val : repairP p.2 = p.2
theorem isWord_all {l : List UInt8} (h : isWord l = true) : (∀ c ∈ l, wordB c = true) ∧ l ≠ [] := by
 unfold isWord at h
 rw [Bool.and_eq_true, List.all_eq_true] at h
 exact ⟨h.1, by intro e; rw [e] at h; exact absurd h.2 (by decide)⟩
theorem GoodP.ne {p : List UInt8 × List UInt8} (h : GoodP p) : p.1 ≠ [] := (isWord_all h.word).2
def Ends (rest : List UInt8) : Prop := rest = [] ∨ ∃ r, rest = 59 :: r
theorem Ends.stop {rest : List UInt8} (h : Ends rest) : rest.takeWhile atomB = [] := by
 rcases h with rfl | ⟨r, rfl⟩
 ·rfl
 ·rw [List.takeWhile_cons, if_neg (by decide)]
theorem tokRows_def (l : List UInt8) : tokRows l = rowsP (bareP (scanP l)) := rfl
theorem scanF_len : ∀ (f : Nat) (l : List UInt8), (scanF f l).length ≤ f
 | 0, l => by simp [scanF]
 | f + 1, l => by
  unfold scanF
  split
  ·simp
  ·have := scanF_len f (l.drop (frontP l).2)
   simp only [List.length_cons]
   omega
theorem scanP_len (l : List UInt8) : (scanP l).length ≤ l.length := scanF_len _ _
theorem bareP_len (ts : List Tok) : (bareP ts).length ≤ ts.length := List.length_filter_le _ _
theorem rowsP_row : ∀ (l : List Tok) (r : List Tok), r ∈ rowsP l → r.length ≤ l.length
 | [], r, h => by
  have : r = [] := by simpa [rowsP] using h
  subst this
  exact Nat.le_refl _
 | t :: l, r, h => by
  unfold rowsP at h
  split at h
  ·rcases List.mem_cons.1 h with rfl | h
   ·exact Nat.zero_le _
   ·have := rowsP_row l r h
    simp only [List.length_cons]; omega
  ·split at h
   ·rename_i hr
    exact absurd hr (rowsP_ne l)
   ·rename_i a b hr
    rcases List.mem_cons.1 h with rfl | h
    ·have := rowsP_row l a (by rw [hr]; exact List.mem_cons_self ..)
     simp only [List.length_cons]; omega
    ·have := rowsP_row l r (by rw [hr]; exact List.mem_cons_of_mem _ h)
     simp only [List.length_cons]; omega
set_option maxRecDepth 100000 in
theorem rows_any (l : List UInt8) (w : World) (hl : l.length ≤ 500000000) :
  Calls Tryz.prog 151 #[.string (ba l)] w (RowsPost w (tokRows l)) := by
 have HTR := Lib.hid (tokRows_def l)
 have h1 := scanP_len l
 have h2 := bareP_len (scanP l)
 have HSL := Lib.hid h1
 have HROW0 := Lib.hid (World.ownsRow_lit (size := 1) (base := w.heap.size) (e := 90) w #[.slice none 0 0] 1 (Nat.le_refl _) (by decide) rfl)
 go_enter Tryz.func151, Tryz.ntmps151
 go_wp2_with fail
 refine (scan_any l _ (by omega)).mono ?_
 rintro e w1 ⟨v1, rfl, hs1, hb1⟩
 obtain ⟨A1, c1, rfl, hc1, hc2, hT1⟩ := hs1.reads
 have HB1 := Lib.hid hb1
 clear hs1 hb1 hc1 hc2
 go_wp2_with fail
 refine (bare_any (scanP l) A1 _ c1 w1 hT1 (by omega)).mono ?_
 rintro e w2 ⟨v2, rfl, hs2, hb2⟩
 obtain ⟨A2, c2, rfl, hc1, hc2, hT2⟩ := hs2.reads
 obtain ⟨ts, hts⟩ : ∃ ts, bareP (scanP l) = ts := ⟨_, rfl⟩
 rw [hts] at hT2 HTR hc1 h2
 rw [hts]
 have hn : ts.length ≤ 500000000 := by omega
 obtain ⟨n, hn2⟩ : ∃ n, ts.length = n := ⟨_, rfl⟩
 rw [hn2] at hT2 hn hc1
 rw [hn2]
 have HN := Lib.hid hn2
 have HT := Lib.hid hT2
 have hz0 : w.heap.size + 1 ≤ w1.heap.size := by have := HB1.out.size; simp at this; omega
 have HB2 := Lib.hid (hb2)
 have hz2 : w1.heap.size ≤ w2.heap.size := hb2.size
 have HBW := Lib.hid (show Below w.heap.size w w2 from ((Below.refl _ _).alloc (Nat.le_refl _) _).trans ((HB1.out.mono (by simp)).trans (hb2.mono (by omega))))
 have HLO := Lib.hid (show ∀ ad, A2 = some ad → w1.heap.size ≤ ad.block from fun ad e => by subst e; exact (hs2.row.lt ad.block rfl).1)
 have HR0 := Lib.hid (show RowsAt w2 w.heap.size w2.heap.size (.slice (some ⟨w.heap.size, 0, none⟩) 1 1) [[]] [.slice none 0 0] from by
  have hk : w2.heap[w.heap.size]? = (w.alloc (.cells #[.slice none 0 0] 90)).heap[w.heap.size]? := (hb2.block _ (by omega)).trans (HB1.out.block _ (by simp))
  refine ⟨ownsRow_block HROW0.out fun b e => ?_, rfl, fun i hi => ?_, fun i j b hij hj => ?_⟩
  ·have : w.heap.size = b := Option.some.inj e
   rw [← this]
   exact hk
  ·have : i = 0 := by simp at hi; exact hi
   subst this
   exact OwnToks.nil_ _ _
  ·simp at hj; omega)
 clear hT1 hs2 hb2 hc1 hc2 h1 h2 hts hn2 hT2
 go_wp2
 go_loopw [3, 5, 11] (fun v b i wr => ∃ (k : Nat) (y : Value), b = y ∧ k ≤ n ∧ i = .int .i64 (k : Int) ∧ Hid (RwRel w w2 ts k v wr)) (fun _ _ i _ => n - (intOf i).toNat)
 case atStart => exact ⟨0, _, rfl, Nat.zero_le _, rfl, Lib.hid ⟨⟨[], [], _, rfl, HR0.out⟩, HBW.out, fun b e => .inl (by injection e with e; exact e.symm), fun _ _ _ => rfl, Nat.le_refl _⟩⟩
 case round =>
  obtain ⟨k, y, rfl, hk, rfl, HR⟩ := hrel
  have hsz := HR.out.bel.size
  by_cases hlt : k < n
  ·have hk2 : (k : Int) < n := by omega
   have hkl : k < ts.length := by rw [HN.out]; exact hlt
   obtain ⟨rs, r, xs, hrw, hra⟩ := HR.out.ex
   have HRT := Lib.hid (rows_take hkl hrw)
   have HBE := Lib.hid HR.out.bel
   have HRL := Lib.hid (show r.length ≤ 1000000000 by
    have h1 := rowsP_row (ts.take k) r (by rw [hrw]; simp)
    rw [List.length_take] at h1
    omega)
   have hlen1 : (rs ++ [r]).length ≤ k + 1 := by
    rw [← hrw]
    have := rowsP_len (ts.take k)
    rw [List.length_take] at this
    omega
   obtain ⟨ad, rfl, hbl, c0, c1, c2⟩ := HT.out.2 k hkl
   have hadb : (ad.add (k * 2)).block ≠ w.heap.size := by rw [add_block]; have := HLO.out ad rfl; omega
   have hk9 := HR.out.keep _ hbl hadb
   have d0 := (World.cell?_of_block (a := ad.add (k * 2)) hk9).trans c0
   have d1 := (World.cell?_of_block (a := ⟨(ad.add (k * 2)).block, (ad.add (k * 2)).off + 1, none⟩) hk9).trans c1
   have HVB := Lib.hid HR.out.vb
   have HKP := Lib.hid HR.out.keep
   have hws := HR.out.size
   have HRA := Lib.hid hra
   clear hk9 c0 c1 hrw hra HR
   obtain ⟨t, ht⟩ : ∃ t, ts[k] = t := ⟨_, rfl⟩
   rw [ht] at d0 d1 HRT c2
   have HC2 := Lib.hid c2
   have hB : w.heap.size ≤ (wr.alloc (.cells #[.int .i64 t.kind, .string (ba t.text)] 94)).heap.size := by simp; omega
   have HRB := Lib.hid (show RowsAt (wr.alloc (.cells #[.int .i64 t.kind, .string (ba t.text)] 94)) w.heap.size w2.heap.size u3 (rs ++ [r]) xs from HRA.out.below ((Below.refl _ _).alloc (Nat.le_refl _) _))
   have HL1 := Lib.hid (show (rs ++ [r]).length ≤ 1000000000 by omega)
   clear ht c2 hkl hadb hbl
   by_cases hse : semiB t = true
   ·have hk4 : t.kind = 4 ∧ t.text = [59] := by
     unfold semiB at hse
     rw [Bool.and_eq_true, decide_eq_true_iff, decide_eq_true_iff] at hse
     exact hse
    have g1 : (t.kind == 4) = true := by simp [hk4.1]
    have g2 : (ba t.text).toList = [59] := by rw [ba_toList, hk4.2]
    have HRT2 := Lib.hid (show rowsP (ts.take (k + 1)) = (rs ++ [r]) ++ [[]] by rw [HRT.out, if_pos hse])
    clear hse hk4
    go_wp2_with (at_builtin; go_must (refine wpList_pushNil (W := (wr.alloc (.cells #[.int .i64 t.kind, .string (ba t.text)] 94))) HRB.out hB HL1.out rfl (.tmp 23) (.tmp 24) 1 rfl rfl (by show Value.slice (some ⟨wr.heap.size + 1, 0, none⟩) 1 1 = _; simp) ?_); intro v2 w3 h1 h2 h3; (have H1 := Lib.hid h1; have H2 := Lib.hid h2; have H3 := Lib.hid h3; clear h1 h2 h3))
    go_roundw
    case rel =>
     refine ⟨k + 1, _, rfl, by omega, by go_num, Lib.hid ⟨⟨_, _, _, HRT2.out, H1.out⟩, (HBE.out.alloc hsz _).grown H2.out hB (fun g e => (HRB.out.own.lt g e).1), fun b e => ?_, fun b hb hne => ?_, by have := H2.out.size; simp at this; omega⟩⟩
     ·rcases H3.out with h | ⟨q, hq, hq2⟩
      ·exact HVB.out b (by rw [← h]; exact e)
      ·rw [hq] at e
       have : q = b := Option.some.inj e
       simp at hq2
       omega
     ·refine (H2.out.block b (by simp; omega) fun e => ?_).trans ((heap_alloc_old _ _ (by omega)).trans (HKP.out b hb hne))
      rcases HVB.out b e.symm with h | h
      ·exact hne h
      ·omega
    case measure => simp [intOf] <;> omega
   ·have HRT2 := Lib.hid (show rowsP (ts.take (k + 1)) = rs ++ [r ++ [t]] by rw [HRT.out, if_neg hse])
    have hnk : (t.kind == 4) = false ∨ ((t.kind == 4) = true ∧ ((ba t.text).toList == [59]) = false ∧ ¬ (ba t.text).toList = [59]) := by
     by_cases h4 : t.kind = 4
     ·refine .inr ⟨by simp [h4], ?_⟩
      have h5 : t.text ≠ [59] := fun h => hse (by unfold semiB; simp [h4, h])
      rw [ba_toList]
      exact ⟨by simpa using h5, h5⟩
     ·exact .inl (by simpa using h4)
    clear hse
    obtain ⟨g, cap, hu3, hgB, hgL⟩ := HRB.out.own.form (by simp)
    subst hu3
    have hml : (rs ++ [r]).length = rs.length + 1 := by rw [List.length_append]; rfl
    have hcx := HRB.out.own.cellAt (g := g) rs.length (by omega)
    have hxl : xs.length = rs.length + 1 := by rw [HRB.out.len, hml]
    have hxv : xs[rs.length]? = some (xs.getD rs.length .nilFunc) := by rw [List.getD_eq_getElem?_getD, List.getElem?_eq_getElem (by omega)]; rfl
    rw [hxv] at hcx
    have hol := HRB.out.each rs.length (by omega)
    rw [List.getElem_append_right (Nat.le_refl _)] at hol
    simp only [Nat.sub_self, List.getElem_cons_zero] at hol
    obtain ⟨A3, c3, hA3, _, _, _⟩ := hol.reads
    have hgw : g ≠ wr.heap.size := by
     rcases HVB.out g rfl with h | h
     ·omega
     ·intro e
      have h1 := (HRA.out.own.lt g rfl).2
      omega
    have HRB3 := Lib.hid HRB.out
    obtain ⟨xv, hxv2⟩ : ∃ x, xs.getD rs.length .nilFunc = x := ⟨_, rfl⟩
    rw [hxv2] at hcx hol hA3
    subst hA3
    have HXV := Lib.hid hxv2
    have HOL := Lib.hid hol
    rw [hml]
    obtain ⟨m, hm⟩ : ∃ m, rs.length = m := ⟨_, rfl⟩
    rw [hm] at hcx hml hxl
    rw [hm]
    have HM := Lib.hid hm
    have hm9 : m ≤ 1000000000 := by have := HL1.out; omega
    have hfz : (wr.alloc (.cells #[.int .i64 t.kind, .string (ba t.text)] 94)).frozen? ⟨g, m, none⟩ = false := HRB.out.own.frozenAt m
    have hcx2 : ((wr.alloc (.cells #[.int .i64 t.kind, .string (ba t.text)] 94)).alloc (.cells #[.int .i64 t.kind, .string (ba t.text)] 94)).cell? ⟨g, m, none⟩ = some (Value.slice A3 r.length c3) := (((Below.refl (wr.alloc (.cells #[.int .i64 t.kind, .string (ba t.text)] 94)).heap.size (wr.alloc (.cells #[.int .i64 t.kind, .string (ba t.text)] 94))).alloc (Nat.le_refl _) (.cells #[.int .i64 t.kind, .string (ba t.text)] 94)).cell (p := ⟨g, m, none⟩) (HRB.out.own.lt g rfl).2).trans hcx
    have HOLD := Lib.hid (show OwnToks (wr.alloc (.cells #[.int .i64 t.kind, .string (ba t.text)] 94)).drew w2.heap.size (.slice A3 r.length c3) r from HOL.out.block fun _ _ => rfl)
    have hBL : w2.heap.size ≤ (wr.alloc (.cells #[.int .i64 t.kind, .string (ba t.text)] 94)).drew.heap.size := by simp; omega
    have HST := Lib.hid (show ∀ w3 : World, (wr.alloc (.cells #[.int .i64 t.kind, .string (ba t.text)] 94)).drew.grownBy w3 (Value.slice A3 r.length c3).ownBlock → w3.cell? ⟨g, m, none⟩ = some (Value.slice A3 r.length c3) ∧ w3.frozen? ⟨g, m, none⟩ = false from fun w3 h => by
     have hne : ∀ b, (Value.slice A3 r.length c3).ownBlock = some b → b ≠ g := fun b hb e => by
      subst e
      exact own_ne HOL.out.row HRB.out.own (by decide) hb rfl
     have hgk : w3.heap[g]? = (wr.alloc (.cells #[.int .i64 t.kind, .string (ba t.text)] 94)).heap[g]? := h.block g (HRB.out.own.lt g rfl).2 fun e => hne g e.symm rfl
     exact ⟨(World.cell?_of_block (a := ⟨g, m, none⟩) hgk).trans hcx, (by unfold World.frozen?; rw [hgk]; exact hfz)⟩)
    have HEND := Lib.hid (show ∀ (v' : Value) (w3 : World), OwnToks w3 w2.heap.size v' (r ++ [⟨t.kind, t.text⟩]) → (wr.alloc (.cells #[.int .i64 t.kind, .string (ba t.text)] 94)).drew.grownBy w3 (Value.slice A3 r.length c3).ownBlock → (v'.ownBlock = (Value.slice A3 r.length c3).ownBlock ∨ ∃ k, v'.ownBlock = some k ∧ (wr.alloc (.cells #[.int .i64 t.kind, .string (ba t.text)] 94)).drew.heap.size ≤ k) →
      RwRel w w2 ts (k + 1) (.slice (some ⟨g, 0, none⟩) (m + 1) cap) (w3.setCell ⟨g, m, none⟩ v') from fun v' w3 h1 h2 h3 => by
     have hg' : (wr.alloc (.cells #[.int .i64 t.kind, .string (ba t.text)] 94)).grownBy w3 (xs.getD rs.length .nilFunc).ownBlock := by
      rw [HXV.out]
      exact ⟨h2.os, h2.tape, h2.output, h2.size, h2.block⟩
     have hset := HRB3.out.setLast hg' h1 (by rw [HXV.out]; exact h3)
     rw [HM.out] at hset
     have hmm : (rs ++ [r]).length = m + 1 := by rw [List.length_append, HM.out]; rfl
     rw [hmm] at hset
     have hz := h2.size
     simp at hz
     refine ⟨⟨rs, r ++ [t], _, HRT2.out, hset⟩, (((HBE.out.alloc hsz _).drew).grown h2 (by simp; omega) fun q e => by have := (HOL.out.row.lt q e).1; omega).setCell hgB _, fun b e => HVB.out b e, fun b hb hne => ?_, by simp; omega⟩
     have hbg : b ≠ g := by
      rcases HVB.out g rfl with h | h <;> omega
     rw [heap_setCell_other _ ⟨g, m, none⟩ b _ hbg]
     refine (h2.block b (by simp; omega) fun e => ?_).trans ((heap_alloc_old _ _ (by omega)).trans (HKP.out b hb hne))
     have := (HOL.out.row.lt b e.symm).1
     omega)
    clear hxv hol hxv2 hm hml hxl HL1
    rcases hnk with g1 | ⟨g1, g2, g3⟩
    ·go_wp2
     have hmw : IntKind.i64.wrap (m : Int) = (m : Int) := IntWalk.i64_in _ (by omega)
     have hm0 : (0 : Int) ≤ (m : Int) := by omega
     have hm1 : (m : Int) < (m : Int) + 1 := by omega
     go_region_law
      (first
       | (refine step_pushTokN (W := (wr.alloc (.cells #[.int .i64 t.kind, .string (ba t.text)] 94)).drew) HOLD.out hBL HC2.out HRL.out rfl (.tmp 35) (.tmp 37) 1 rfl rfl (by show Value.slice (some ⟨wr.heap.size + 1, 0, none⟩) 1 1 = _; simp) ?_; intro v' w3 h1 h2 h3; (obtain ⟨A4, c4, hv4, -, -, -⟩ := h1.reads; rw [List.length_append, List.length_singleton] at hv4; subst hv4; have H1 := Lib.hid h1; have H2 := Lib.hid h2; have H3 := Lib.hid h3; clear h1 h2 h3; obtain ⟨p1, p2⟩ := HST.out w3 H2.out))
       | fail)
     all_goals
      go_wp2
      go_roundw
      case rel => exact ⟨k + 1, _, rfl, by omega, by go_num, Lib.hid (HEND.out _ _ H1.out H2.out H3.out)⟩
      case measure => simp [intOf] <;> omega
    ·go_wp2
     have hmw : IntKind.i64.wrap (m : Int) = (m : Int) := IntWalk.i64_in _ (by omega)
     have hm0 : (0 : Int) ≤ (m : Int) := by omega
     have hm1 : (m : Int) < (m : Int) + 1 := by omega
     go_region_law
      (first
       | (refine step_pushTokN (W := (wr.alloc (.cells #[.int .i64 t.kind, .string (ba t.text)] 94)).drew) HOLD.out hBL HC2.out HRL.out rfl (.tmp 35) (.tmp 37) 1 rfl rfl (by show Value.slice (some ⟨wr.heap.size + 1, 0, none⟩) 1 1 = _; simp) ?_; intro v' w3 h1 h2 h3; (obtain ⟨A4, c4, hv4, -, -, -⟩ := h1.reads; rw [List.length_append, List.length_singleton] at hv4; subst hv4; have H1 := Lib.hid h1; have H2 := Lib.hid h2; have H3 := Lib.hid h3; clear h1 h2 h3; obtain ⟨p1, p2⟩ := HST.out w3 H2.out))
       | fail)
     all_goals
      go_wp2
      go_roundw
      case rel => exact ⟨k + 1, _, rfl, by omega, by go_num, Lib.hid (HEND.out _ _ H1.out H2.out H3.out)⟩
      case measure => simp [intOf] <;> omega
  ·obtain rfl : k = n := by omega
   obtain ⟨rs, r, xs, hrw, hra⟩ := HR.out.ex
   rw [List.take_of_length_le (by rw [HN.out]; exact Nat.le_refl _)] at hrw
   have HRA := Lib.hid hra
   have HRW := Lib.hid hrw
   have HBE := Lib.hid HR.out.bel
   clear hrw hra HR
   go_wp2
   go_ret
   exact ⟨_, xs, rfl, by rw [HTR.out, HRW.out]; exact HRA.out.less (by omega), HBE.out⟩
end Go.Proofs.YthidbmeaccpjdaaGreatDoor
