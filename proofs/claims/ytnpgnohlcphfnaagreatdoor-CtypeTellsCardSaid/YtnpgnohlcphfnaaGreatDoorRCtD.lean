/- Reference 12: the contract of Rows. -/
import Derived.Test.YtnpgnohlcphfnaaGreatDoorM15
import Derived.Test.YtnpgnohlcphfnaaGreatDoorM05
import Derived.Test.YtnpgnohlcphfnaaGreatDoorRCtB
namespace Go.Proofs.YtnpgnohlcphfnaaGreatDoor
open Go.RowKit
set_option linter.unusedVariables false

theorem RowsAt.snoc {w w' : World} {B C : Nat} {v v' u : Value} {r : List Tok} {rs : List (List Tok)} {xs : List Value} (h : RowsAt w B C v rs xs) (hu : OwnToks w C u r) (hd : ∀ i b, i < rs.length → (xs.getD i .nilFunc).ownBlock = some b → u.ownBlock ≠ some b)
    (hg : w.grownBy w' v.ownBlock) (hown : w'.ownsRow B 55 1 v' (rs.length + 1) (xs ++ [u])) : RowsAt w' B C v' (rs ++ [r]) (xs ++ [u]) := by
  refine ⟨by rw [List.length_append]; exact hown, by rw [List.length_append, List.length_append, h.len]; rfl, fun i hi => ?_, fun i j b hij hj hb => ?_⟩
  · rw [List.length_append] at hi
    by_cases hlt : i < rs.length
    · rw [getD_snoc_lt (by rw [h.len]; exact hlt), List.getElem_append_left hlt]
      refine (h.each i hlt).block fun b hb => hg.block b ((h.each i hlt).row.lt b hb).2 fun e => ?_
      exact own_ne (h.each i hlt).row h.own (by decide) hb e.symm
    · have : i = xs.length := by rw [h.len]; simp at hi; omega
      subst this
      rw [getD_snoc_eq]
      have e : (rs ++ [r])[xs.length]'(by simp [h.len]) = r := by
        rw [List.getElem_append_right (by rw [h.len]; exact Nat.le_refl _)]
        simp
      rw [e]
      refine hu.block fun b hb => hg.block b (hu.row.lt b hb).2 fun e => ?_
      exact own_ne hu.row h.own (by decide) hb e.symm
  · rw [List.length_append] at hj
    by_cases hlt : j < rs.length
    · rw [getD_snoc_lt (by rw [h.len]; exact hlt)]
      rw [getD_snoc_lt (by rw [h.len]; omega)] at hb
      exact h.dist i j b hij hlt hb
    · have : j = xs.length := by rw [h.len]; simp at hj; omega
      subst this
      rw [getD_snoc_eq]
      rw [getD_snoc_lt (by omega)] at hb
      exact hd i b (by rw [← h.len]; exact hij) hb
theorem RowsAt.grow {w w' : World} {B C : Nat} {v u : Value} {r : List Tok} {rs : List (List Tok)} {xs : List Value} (h : RowsAt w B C v rs xs) (hu : OwnToks w C u r) (hd : ∀ i b, i < rs.length → (xs.getD i .nilFunc).ownBlock = some b → u.ownBlock ≠ some b)
    (hg : w.grownBy w' u.ownBlock) : RowsAt w' B C v rs xs :=
  ⟨ownsRow_block h.own fun b e => hg.block b (h.own.lt b e).2 fun e2 => own_ne hu.row h.own (by decide) e2.symm e, h.len,
    fun i hi => (h.each i hi).block fun b hb => hg.block b ((h.each i hi).row.lt b hb).2 fun e => hd i b hi hb e.symm, h.dist⟩
set_option maxRecDepth 100000 in
set_option maxHeartbeats 4000000 in
theorem wpList_pushRow {ops : Array Oper} {rest : List Oper} {o : Oper} {a : Act} {W : World} {Q : Exit → Act → World → Prop} {B C n0 c0 : Nat} {A0 : Option Addr} {v : Value} {r : List Tok} {rs : List (List Tok)} {xs : List Value} (hT : RowsAt W B C v rs xs) (hu : OwnToks W C (.slice A0 n0 c0) r)
    (hd : ∀ i b, i < rs.length → (xs.getD i .nilFunc).ownBlock = some b → (Value.slice A0 n0 c0).ownBlock ≠ some b) (hB : B ≤ W.heap.size)
    (hlen : rs.length ≤ 1000000000) (hgd : o.guard = none) (s y : Operand) (c : Nat)
    (ho : o.op = .call { callee := .builtin .append, args := #[s, y], argTypes := #[50, 50] }) (hs : a.eval s = v) (hx : a.eval y = .slice (some ⟨W.heap.size, 0, none⟩) 1 c)
    (h : ∀ v' w', RowsAt w' B C v' (rs ++ [r]) (xs ++ [.slice A0 n0 c0]) → W.grownBy w' v.ownBlock → wpList Tryz.prog ops Q rest (a.put o.dst v') w') :
    wpList Tryz.prog ops Q (o :: rest) a (W.alloc (.cells #[.slice A0 n0 c0] 55)) := by
  refine wpList_plain hgd fun K hK => ?_
  obtain ⟨i0, hi, hz0, hz1, hz2⟩ := info_parts row_info
  obtain ⟨v', w', hrun, h1, h2, _, h4⟩ := run_append_own_at (P := Tryz.prog) (W.alloc (.cells #[.slice A0 n0 c0] 55)) B 50 o.type 55 i0 _ 1 24 Tryz.underlying50 hi hz0 hz1 hz2 rfl (by omega) v rs.length xs (World.ownsRow.alloc hT.own _) ⟨W.heap.size, 0, none⟩ 1 c [.slice A0 n0 c0] rfl (World.news_of_block (MapKept.heap_alloc W _).1) (fun u hu => by simp at hu; subst hu; rfl) (by simp only [maxLen]; omega) (by omega) (by simp; omega)
  have h5 := World.grownBy_alloc W (.cells #[.slice A0 n0 c0] 55) v.ownBlock
  have h6 : W.grownBy w' v.ownBlock := ⟨h2.os.trans h5.os, h2.tape.trans h5.tape, h2.output.trans h5.output, Nat.le_trans h5.size h2.size, fun k hk hne => (h2.block k (by simp; omega) hne).trans (h5.block k hk hne)⟩
  unfold Oper.wp execOp
  simp only [ho, resolve, invoke, builtin, Sem.run_bind, Sem.run_pure, Result.andThen_ok, List.map_toArray, List.map_cons, List.map_nil, hs, hx, hrun]
  exact hK _ _ (h v' w' (hT.snoc hu hd h6 h1) h6)
theorem wpList_pushTokN {ops : Array Oper} {rest : List Oper} {o : Oper} {a : Act} {W : World} {Q : Exit → Act → World → Prop} {B : Nat} {v : Value} {ts : List (Tok)} {x0 : Int} {x1 : List UInt8} (hT : OwnToks W B v ts) (hB : B ≤ W.heap.size) (hf : TokOk (⟨x0, x1⟩ : Tok))
    (hlen : ts.length ≤ 1000000000) (hgd : o.guard = none) (s y : Operand) (c : Nat)
    (ho : o.op = .call { callee := .builtin .append, args := #[s, y], argTypes := #[55, 55] }) (hs : a.eval s = v) (hx : a.eval y = .slice (some ⟨W.heap.size, 0, none⟩) 1 c)
    (h : ∀ v' w', OwnToks w' B v' (ts ++ [(⟨x0, x1⟩ : Tok)]) → W.grownBy w' v.ownBlock → (v'.ownBlock = v.ownBlock ∨ ∃ k, v'.ownBlock = some k ∧ W.heap.size ≤ k) → wpList Tryz.prog ops Q rest (a.put o.dst v') w') :
    wpList Tryz.prog ops Q (o :: rest) a (W.alloc (.cells #[.int .i64 x0, .string (ba x1)] 85)) :=
  wpList_plain hgd fun _ hK => wp_pushTokN hT hB hf hlen s y c ho hs hx fun v' w' h2 h3 h4 => hK _ _ (h v' w' h2 h3 h4)
theorem rows_fin {w w' : World} {B : Nat} {v : Value} {ys rs : List (List Tok)} {xs : List Value} (e : ys = rs) (h : RowsAt w' B B v rs xs) (hB : w.heap.size ≤ B) (hb : Below w.heap.size w w') : RowsPost w ys (.returned v) w' := by
  subst e
  refine ⟨v, xs, rfl, ⟨⟨h.own.1, ?_⟩, h.len, fun i hi => (h.each i hi).more hB, h.dist⟩, hb⟩
  rcases h.own.2 with h1 | ⟨g, cap, cur, e, h2, h3⟩
  · exact .inl h1
  · exact .inr ⟨g, cap, cur, e, by omega, h3⟩
/-- The state of the loop. -/
structure RRw (w2 : World) (ts : List Tok) (k : Nat) (v u : Value) (wr : World) : Prop where
  ex : ∃ rs r xs, rowsP (ts.take k) = rs ++ [r] ∧ RowsAt wr w2.heap.size w2.heap.size v rs xs ∧ OwnToks wr w2.heap.size u r ∧ ∀ i b, i < rs.length → (xs.getD i .nilFunc).ownBlock = some b → u.ownBlock ≠ some b
  bel : Below w2.heap.size w2 wr
theorem RowsAt.nil_ (w : World) (B C : Nat) : RowsAt w B C (.slice none 0 0) [] [] := ⟨World.ownsRow_nil _ _ _ _, rfl, fun i hi => absurd hi (by simp), fun i j b _ hj => absurd hj (by simp)⟩
set_option maxRecDepth 100000 in
set_option maxHeartbeats 4000000 in
theorem rrows_any (l : List UInt8) (w : World) (hl : l.length ≤ 500000000) :
    Calls Tryz.prog 35 #[.string (ba l)] w (RowsPost w (tokRows l)) := by
  have HTR := Lib.hid (tokRows_def l)
  have h1 := scanP_len l
  have h2 := bareP_len (scanP l)
  go_enter Tryz.func35, Tryz.ntmps35
  go_wp2_with fail
  refine (rscan_any l _ (by omega)).mono ?_
  rintro e w1 ⟨v1, rfl, hs1, hb1⟩
  obtain ⟨A1, c1, rfl, hc1, hc2, hT1⟩ := hs1.reads
  have HB1 := Lib.hid hb1
  clear hs1 hb1 hc1 hc2
  go_wp2_with fail
  refine (rbare_any (scanP l) A1 _ c1 w1 hT1 (by omega)).mono ?_
  rintro e w2 ⟨v2, rfl, hs2, hb2⟩
  obtain ⟨A2, c2, rfl, hc1, hc2, hT2⟩ := hs2.reads
  obtain ⟨ts, hts⟩ : ∃ ts, bareP (scanP l) = ts := ⟨_, rfl⟩
  rw [hts] at hT2 HTR hc1 h2
  rw [hts]
  have hn : ts.length ≤ 500000000 := by omega
  obtain ⟨n, hn2⟩ : ∃ n, ts.length = n := ⟨_, rfl⟩
  rw [hn2] at hT2 hn hc1
  rw [hn2]
  have HN := Lib.hid hn2
  have HT := Lib.hid hT2
  have HBW := Lib.hid (HB1.out.trans (hb2.mono HB1.out.size))
  clear hT1 hs2 hb2 hc1 hc2 h1 h2 hts hn2 hT2
  go_wp2
  go_loopw [4, 5, 6] (fun v u i wr => ∃ k : Nat, k ≤ n ∧ i = .int .i64 (k : Int) ∧ Hid (RRw w2 ts k v u wr)) (fun _ _ i _ => n - (intOf i).toNat)
  case atStart => exact ⟨0, Nat.zero_le _, rfl, Lib.hid ⟨⟨[], [], [], rfl, RowsAt.nil_ _ _ _, OwnToks.nil_ _ _, fun i b hi => absurd hi (by simp)⟩, Below.refl _ _⟩⟩
  case round =>
    obtain ⟨k, hk, rfl, HR⟩ := hrel
    have hsz := HR.out.bel.size
    have hul := HR.out.ex
    obtain ⟨rs, r, xs, hrw, hra, hru, hrd⟩ := HR.out.ex
    obtain ⟨A5, c5, hu5, -, -, -⟩ := hru.reads
    subst hu5
    have HRA := Lib.hid hra
    have HRU := Lib.hid hru
    have HRD := Lib.hid hrd
    have HBE := Lib.hid HR.out.bel
    have hlen1 : rs.length ≤ k := by
      have h1 := rowsP_len (ts.take k)
      rw [hrw, List.length_take, List.length_append] at h1
      simp at h1
      omega
    have HL1 := Lib.hid (show rs.length ≤ 1000000000 by omega)
    by_cases hlt : k < n
    · have hk2 : (k : Int) < n := by omega
      have hkl : k < ts.length := by rw [HN.out]; exact hlt
      have HRT := Lib.hid (rows_take hkl hrw)
      have HRL := Lib.hid (show r.length ≤ 1000000000 by
        have h1 := rowsP_row (ts.take k) r (by rw [hrw]; simp)
        rw [List.length_take] at h1
        omega)
      obtain ⟨ad, rfl, hbl, c0, c1', c2'⟩ := (HT.out.below HBE.out).2 k hkl
      obtain ⟨t, ht⟩ : ∃ t, ts[k] = t := ⟨_, rfl⟩
      rw [ht] at c0 c1' c2' HRT
      have HC2 := Lib.hid c2'
      clear ht c2' hkl hbl hra hru hrd hrw HR hlen1 hul
      by_cases hse : semiB t = true
      · have hk4 : t.kind = 4 ∧ t.text = [59] := by
          unfold semiB at hse
          rw [Bool.and_eq_true, decide_eq_true_iff, decide_eq_true_iff] at hse
          exact hse
        have g1 : (t.kind == 4) = true := by simp [hk4.1]
        have g2 : (ba t.text).toList = [59] := by rw [ba_toList, hk4.2]
        have HRT2 := Lib.hid (show rowsP (ts.take (k + 1)) = (rs ++ [r]) ++ [[]] by rw [HRT.out, if_pos hse])
        clear hse hk4
        go_wp2_with (at_builtin; go_must (refine wpList_pushRow (W := wr) HRA.out HRU.out HRD.out hsz HL1.out rfl (.tmp 30) (.tmp 32) 1 rfl rfl (by show Value.slice (some ⟨wr.heap.size, 0, none⟩) 1 1 = _; simp) ?_); intro v6 w6 q1 q2; (have HN6 := Lib.hid (show RRw w2 ts (k + 1) v6 (.slice none 0 0) w6 from ⟨⟨rs ++ [r], [], _, HRT2.out, q1, OwnToks.nil_ _ _, fun i b _ _ e => by cases e⟩, HBE.out.grown q2 hsz fun q e => (HRA.out.own.lt q e).1⟩); clear q1 q2))
        go_roundw
        case rel => exact ⟨k + 1, by omega, by go_num, HN6⟩
        case measure => simp [intOf] <;> omega
      · have HRT2 := Lib.hid (show rowsP (ts.take (k + 1)) = rs ++ [r ++ [t]] by rw [HRT.out, if_neg hse])
        have hnk : (t.kind == 4) = false ∨ ((t.kind == 4) = true ∧ ((ba t.text).toList == [59]) = false ∧ ¬ (ba t.text).toList = [59]) := by
          by_cases h4 : t.kind = 4
          · refine .inr ⟨by simp [h4], ?_⟩
            have h5 : t.text ≠ [59] := fun h => hse (by unfold semiB; simp [h4, h])
            rw [ba_toList]
            exact ⟨by simpa using h5, h5⟩
          · exact .inl (by simpa using h4)
        clear hse
        have HEND := Lib.hid (show ∀ (v' : Value) (w6 : World), OwnToks w6 w2.heap.size v' (r ++ [⟨t.kind, t.text⟩]) → wr.grownBy w6 (Value.slice A5 r.length c5).ownBlock → (v'.ownBlock = (Value.slice A5 r.length c5).ownBlock ∨ ∃ k, v'.ownBlock = some k ∧ wr.heap.size ≤ k) → RRw w2 ts (k + 1) u4 v' w6 from fun v' w6 q1 q2 q3 =>
          ⟨⟨rs, r ++ [t], xs, HRT2.out, HRA.out.grow HRU.out HRD.out q2, q1, fun i b hi hb e => by
            rcases q3 with q3 | ⟨k', q3, q4⟩
            · exact HRD.out i b hi hb (q3 ▸ e)
            · rw [q3] at e
              have e2 : k' = b := Option.some.inj e
              have := ((HRA.out.each i hi).row.lt b hb).2
              omega⟩, HBE.out.grown q2 hsz fun q e => (HRU.out.row.lt q e).1⟩)
        rcases hnk with g1 | ⟨g1, g2, g3⟩
        · go_wp2_with (at_builtin; go_must (refine wpList_pushTokN (W := wr) HRU.out hsz HC2.out HRL.out rfl (.tmp 34) (.tmp 39) 1 rfl rfl (by show Value.slice (some ⟨wr.heap.size, 0, none⟩) 1 1 = _; simp) ?_); intro v6 w6 q1 q2 q3; (have HN6 := Lib.hid (HEND.out v6 w6 q1 q2 q3); clear q1 q2 q3))
          go_roundw
          case rel => exact ⟨k + 1, by omega, by go_num, HN6⟩
          case measure => simp [intOf] <;> omega
        · go_wp2_with (at_builtin; go_must (refine wpList_pushTokN (W := wr) HRU.out hsz HC2.out HRL.out rfl (.tmp 34) (.tmp 39) 1 rfl rfl (by show Value.slice (some ⟨wr.heap.size, 0, none⟩) 1 1 = _; simp) ?_); intro v6 w6 q1 q2 q3; (have HN6 := Lib.hid (HEND.out v6 w6 q1 q2 q3); clear q1 q2 q3))
          go_roundw
          case rel => exact ⟨k + 1, by omega, by go_num, HN6⟩
          case measure => simp [intOf] <;> omega
    · obtain rfl : k = n := by omega
      rw [List.take_of_length_le (by rw [HN.out]; exact Nat.le_refl _)] at hrw
      have HRW := Lib.hid (show tokRows l = rs ++ [r] by rw [HTR.out, hrw])
      clear hra hru hrd hrw HR hlen1 hul
      go_wp2_with (at_builtin; go_must (refine wpList_pushRow (W := wr) HRA.out HRU.out HRD.out hsz HL1.out rfl (.tmp 41) (.tmp 43) 1 rfl rfl (by show Value.slice (some ⟨wr.heap.size, 0, none⟩) 1 1 = _; simp) ?_); intro v6 w6 q1 q2; (have H6 := Lib.hid q1; have HB6 := Lib.hid (HBE.out.grown q2 hsz fun q e => (HRA.out.own.lt q e).1); clear q1 q2))
      go_ret
      have hz := HBW.out.size
      exact rows_fin HRW.out H6.out hz (HBW.out.trans (HB6.out.mono hz))
end Go.Proofs.YtnpgnohlcphfnaaGreatDoor
