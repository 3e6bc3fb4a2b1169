/- Layer 32: the contract of the reference's Words. Layer 32: the contract of the reference's List. Layer 34: the contract of Right. Layer 34, plain: what is found: its order and its size. -/
import Derived.Test.YtfinpehbpcckaaaGreatDoorM13
import Derived.Test.YtfinpehbpcckaaaGreatDoorM09
import Derived.Test.YtfinpehbpcckaaaGreatDoorM12
import Derived.Test.YtfinpehbpcckaaaGreatDoorM10
section
namespace Go.Proofs.YtfinpehbpcckaaaGreatDoor
open Go.RowKit
set_option linter.unusedVariables false

theorem uK_cases (u : List UInt8) : uK u = 0 ∨ uK u = 1 ∨ uK u = 2 := by
  unfold uK kindP
  repeat' split
  all_goals simp
def RWRel (w1 : World) (l : List UInt8) (us : List (List UInt8)) (k pos : Nat) (opn : Bool) (v : Value) (wr : World) : Prop := ∃ ts, RWSt l us k pos opn ts ∧ OwnWds wr w1.heap.size v ts ∧ Below w1.heap.size w1 wr
/-- The words of which the first k have their texts. -/
def mixW (l : List UInt8) (ts : List Wd) (k : Nat) : List Wd := (ts.take k).map (fun t => (wordAt l t.2, t.2)) ++ ts.drop k
theorem mix_len (l : List UInt8) (ts : List Wd) (q : Nat) (h : q ≤ ts.length) : (mixW l ts q).length = ts.length := by
  unfold mixW
  rw [List.length_append, List.length_map, List.length_take, List.length_drop]; omega
theorem mix_get (l : List UInt8) (ts : List Wd) {q : Nat} (h : q < ts.length) : (mixW l ts q)[q]? = some ts[q] := by
  unfold mixW
  rw [List.getElem?_append_right (by rw [List.length_map, List.length_take]; omega), List.length_map, List.length_take, Nat.min_eq_left (Nat.le_of_lt h), Nat.sub_self, List.getElem?_drop, Nat.add_zero, List.getElem?_eq_getElem h]
theorem mix_set (l : List UInt8) (ts : List Wd) {q : Nat} (h : q < ts.length) : (mixW l ts q).set q (wordAt l ts[q].2, ts[q].2) = mixW l ts (q + 1) := by
  unfold mixW
  rw [List.set_append_right _ _ (by rw [List.length_map, List.length_take]; omega), List.length_map, List.length_take, Nat.min_eq_left (Nat.le_of_lt h), Nat.sub_self, List.drop_eq_getElem_cons h, List.set_cons_zero, List.take_succ_eq_append_getElem h, List.map_append, List.append_assoc]
  rfl
theorem mix_zero (l : List UInt8) (ts : List Wd) : mixW l ts 0 = ts := by simp [mixW]
theorem mix_all (l : List UInt8) (ts : List Wd) {ws : List (Nat × Nat)} (h : ts.map (·.2) = ws) : mixW l ts ts.length = ws.map fun r => (wordAt l r, r) := by
  unfold mixW
  rw [List.take_length, List.drop_length, List.append_nil, ← h, List.map_map]; rfl
def RWRel2 (w1 : World) (l : List UInt8) (ts : List Wd) (k : Nat) (v : Value) (wr : World) : Prop := OwnWds wr w1.heap.size v (mixW l ts k) ∧ Below w1.heap.size w1 wr
/-- A cell of the row of words that has been set. -/
theorem OwnWds.setAt {w : World} {B n c j : Nat} {ad : Addr} {ts : List Wd} {g : Nat} (hg : (⟨g, 0, none⟩ : Addr) = ad) (h : OwnWds w B (.slice (some ad) n c) ts) (hk : j < ts.length) {i : Nat} (hi : i < 3) {u : Value} {t : Wd} (ht : (wdCells ts[j]).set i u = wdCells t) :
    OwnWds (w.setCell ⟨(ad.add (j * 3)).block, (ad.add (j * 3)).off + i, none⟩ u) B (.slice (some ad) n c) (ts.set j t) := by
  subst hg
  have e1 : (Addr.add ⟨g, 0, none⟩ (j * 3)) = ⟨g, j * 3, none⟩ := by
    unfold Addr.add
    split
    · rename_i e0; rw [e0]
    · rw [Nat.zero_add]
  rw [e1]
  exact OwnWds.set h hk hi ht
theorem OwnWds.cells {w : World} {B : Nat} {v : Value} {ts : List Wd} (h : OwnWds w B v ts) {k : Nat} (hk : k < ts.length) : ∃ g ad c, (⟨g, 0, none⟩ : Addr) = ad ∧ v = .slice (some ad) ts.length c ∧ B ≤ (ad.add (k * 3)).block ∧ (ad.add (k * 3)).block < w.heap.size ∧
    w.cell? (ad.add (k * 3)) = some (.string (ba ts[k].1)) ∧ w.cell? ⟨(ad.add (k * 3)).block, (ad.add (k * 3)).off + 1, none⟩ = some (.int .i64 ts[k].2.1) ∧ w.cell? ⟨(ad.add (k * 3)).block, (ad.add (k * 3)).off + 2, none⟩ = some (.int .i64 ts[k].2.2) ∧
    w.frozen? (ad.add (k * 3)) = false ∧ w.frozen? ⟨(ad.add (k * 3)).block, (ad.add (k * 3)).off + 2, none⟩ = false := by
  obtain ⟨g, c, e, h1, h2, h3, h4, h5, h6, h7⟩ := h.at_ hk
  have e1 : (Addr.add ⟨g, 0, none⟩ (k * 3)) = ⟨g, k * 3, none⟩ := by
    unfold Addr.add
    split
    · rename_i e0; rw [e0]
    · rw [Nat.zero_add]
  refine ⟨g, _, c, rfl, e, ?_, ?_, ?_, ?_, ?_, ?_, ?_⟩
  all_goals rw [e1]
  all_goals assumption
theorem OwnWds.shape {w : World} {B : Nat} {v : Value} {ts : List Wd} (h : OwnWds w B v ts) : ∃ A c, v = .slice A ts.length c := by
  have h0 : w.ownsRow B 106 3 v ts.length (ts.flatMap wdCells) := h
  rcases h0.2 with ⟨rfl, hn⟩ | ⟨g, cap, cur, rfl, _⟩
  · exact ⟨none, 0, by rw [hn]⟩
  · exact ⟨_, cap, rfl⟩
set_option maxRecDepth 100000 in
set_option maxHeartbeats 8000000 in
theorem rwords_any (l : List UInt8) (w : World) (hl : l.length ≤ 100000000) : Calls Tryz.prog 95 #[.string (ba l)] w (WordsBack w l) := by
  have HL := Lib.hid hl
  go_enter Tryz.func95, Tryz.ntmps95
  go_wp2_with fail
  refine (units_any l w (by omega)).mono ?_
  rintro e w1 ⟨v, rfl, hv, hb⟩
  obtain ⟨A, c, rfl, hc1, hc2, hS⟩ := hv.strs
  have hul := units_len l.length l (Nat.le_refl _)
  have HST := Lib.hid (RWSt.start l)
  obtain ⟨us, hus⟩ : ∃ us, unitsP l = us := ⟨_, rfl⟩
  rw [hus] at hS HST hul hc1
  rw [hus]
  obtain ⟨n, hn⟩ : ∃ n, us.length = n := ⟨_, rfl⟩
  rw [hn] at hS hul hc1
  rw [hn]
  have HN := Lib.hid hn
  have HS := Lib.hid hS
  have HB := Lib.hid hb
  have hn9 : n ≤ 100000000 := by omega
  have hsz1 : w.heap.size ≤ w1.heap.size := hb.size
  clear hn hS hb hv hus hul hl hc2
  go_wp2
  go_loopw [4, 5, 6, 7] (fun o a p i wr => ∃ (k pos : Nat) (opn : Bool), k ≤ n ∧ i = .int .i64 (k : Int) ∧ a = .int .i64 (pos : Int) ∧ p = .bool opn ∧ Hid (RWRel w1 l us k pos opn o wr)) (fun _ _ _ i _ => n - (intOf i).toNat)
  case atStart => exact ⟨0, 0, false, Nat.zero_le _, rfl, rfl, rfl, [], HST.out, OwnWds.nil_ _ _, Below.refl _ _⟩
  case round =>
    obtain ⟨k, pos, opn, hk, rfl, rfl, rfl, HR⟩ := hrel
    obtain ⟨ts, hst, hown, hbw⟩ := HR.out
    have hB : w1.heap.size ≤ wr.heap.size := hbw.size
    by_cases hlt : k < n
    · have hk2 : (k : Int) < n := by omega
      have hkl : k < us.length := by rw [HN.out]; exact hlt
      obtain ⟨ad, rfl, hbl, c0⟩ := HS.out.at_ hkl
      have hbl2 : (ad.add k).block < w1.heap.size := by rw [add_block]; exact hbl
      obtain ⟨d, hud, hd1, hd4, hul, hpl, hnx⟩ := hst.step hkl
      have hfew := hst.few
      have hbare := hst.bare
      have hsome := hst.some_
      obtain ⟨u, hu⟩ : ∃ u, us[k] = u := ⟨_, rfl⟩
      rw [hu] at c0 hnx hul
      clear hu hud
      have hkc := uK_cases u
      have HRU := Lib.hid (runit_any u wr (by omega) (by omega))
      obtain ⟨kd, hkd⟩ : ∃ kd, uK u = kd := ⟨_, rfl⟩
      rw [hkd] at hkc hnx HRU
      obtain ⟨s, hs⟩ : ∃ s, ba u = s := ⟨_, rfl⟩
      have hss : s.size = d := by rw [← hs, ba_size, hul]
      rw [hs] at c0 HRU
      have HC := Lib.hid (show ∀ W, Below w1.heap.size w1 W → W.cell? (ad.add k) = some (.string s) from fun W h => (h.cell hbl2).trans c0)
      clear c0
      have c0 := HC.out wr hbw
      have hpos9 : pos + d ≤ 100000000 := by have := HL.out; omega
      have HNX := Lib.hid hnx
      have HOWN := Lib.hid hown
      have HBW := Lib.hid hbw
      have HSOME := Lib.hid hsome
      have HBARE := Lib.hid hbare
      obtain ⟨m, hm⟩ : ∃ m, ts.length = m := ⟨_, rfl⟩
      rw [hm] at hfew
      have HM := Lib.hid hm
      have hmk : m ≤ 100000000 := by omega
      clear hst hnx hown hbw hsome hbare hkd hs hul hpl hfew HR hm
      have hd0 : (s.size : Int) = (d : Int) := by omega
      rcases hkc with rfl | rfl | rfl
      · -- no word
        have HNX0 := Lib.hid (show RWSt l us (k + 1) (pos + d) false ts from by have := HNX.out; unfold wdStep at this; simpa using this)
        obtain ⟨A2, c2, rfl⟩ := HOWN.out.shape
        rw [HM.out]
        clear HNX
        have w9 : IntKind.i64.wrap ((pos : Int) + (s.size : Int)) = ((pos + d : Nat) : Int) := by rw [hd0]; exact (IntWalk.i64_in _ (by omega)).trans (by omega)
        go_wp2_with fail
        refine HRU.out.mono ?_
        rintro e w' ⟨rfl, rfl⟩
        go_wp2
        go_quiet (fail)
        go_wp2
        go_roundw
        case rel => exact ⟨k + 1, pos + d, false, by omega, by go_num, by go_num, rfl, ts, HNX0.out, by have := HOWN.out; rw [HM.out] at this; exact this, Below.drewN HBW.out _⟩
        case measure => simp [intOf] <;> omega
      · cases opn with
        | false =>
          · -- a word begins: nothing is open
            have HNX0 := Lib.hid (show RWSt l us (k + 1) (pos + d) true (ts ++ [([], pos, pos + d)]) from by have := HNX.out; unfold wdStep at this; simpa using this)
            have hal : ts.length ≤ 1000000000 := by rw [HM.out]; omega
            have HAL := Lib.hid hal
            clear hal
            obtain ⟨A2, c2, rfl⟩ := HOWN.out.shape
            rw [HM.out]
            have HOWN2 := Lib.hid HOWN.out
            rw [HM.out] at HOWN2
            clear HNX
            have w9 : IntKind.i64.wrap ((pos : Int) + (s.size : Int)) = ((pos + d : Nat) : Int) := by rw [hd0]; exact (IntWalk.i64_in _ (by omega)).trans (by omega)
            go_wp2_with fail
            refine HRU.out.mono ?_
            rintro e w' ⟨rfl, rfl⟩
            go_wp2
            go_quiet (fail)
            go_wp2_with (at_builtin; go_must (refine wpList_pushWd (W := w'.drewN nq) (t := ([], pos, pos + d)) HOWN2.out (b0 := ⟨#[]⟩) (z1 := (pos : Int)) (z2 := (pos : Int) + (d : Int)) rfl rfl (show ((pos + d : Nat) : Int) = _ by omega) hB HAL.out rfl (.tmp 69) (.tmp 79) 1 rfl rfl (by show Value.slice (some ⟨w'.heap.size, 0, none⟩) 1 1 = _; simp) ?_); intro v2 w2 h1 h2; (have H1 := Lib.hid h1; have HB2 := Lib.hid ((Below.drewN HBW.out _).grown h2 hB fun g e => (World.ownsRow.lt HOWN2.out g e).1); have c9 := HC.out w2 HB2.out; clear h1 h2))
            go_roundw
            case rel => exact ⟨k + 1, pos + d, true, by omega, by go_num, by go_num, rfl, _, HNX0.out, H1.out, HB2.out⟩
            case measure => simp [intOf] <;> omega
        | true =>
          have hne : ts ≠ [] := HSOME.out rfl
          have hmp : 0 < m := by rw [← HM.out]; exact List.length_pos_iff.2 hne
          obtain ⟨j, hjm⟩ : ∃ j, m - 1 = j := ⟨_, rfl⟩
          have hj : j < ts.length := by rw [HM.out]; omega
          have hlast : ts.getLastD ([], 0, 0) = ts[j] := by
            rw [List.getLastD_eq_getLast?, List.getLast?_eq_getElem?, HM.out, hjm, List.getElem?_eq_getElem hj]; rfl
          obtain ⟨g, ad2, c2, hg, rfl, hlo, hhi, e0, e1, e2, -, ef⟩ := HOWN.out.cells hj
          have hb3 := HBARE.out _ (List.getElem_mem hj)
          have HG := Lib.hid hg
          obtain ⟨t, ht⟩ : ∃ t, ts[j] = t := ⟨_, rfl⟩
          rw [ht] at e0 e1 e2 hlast hb3
          have HT := Lib.hid ht
          obtain ⟨t0, x1, x2⟩ := t
          dsimp only at e0 e1 e2 hb3
          have hb30 := hb3.1
          subst hb30
          have hx1 := hb3.2.1
          have hx2 := hb3.2.2
          have HLAST := Lib.hid hlast
          have HOWN2 := Lib.hid HOWN.out
          rw [HM.out] at HOWN2
          rw [HM.out]
          have HJ := Lib.hid hj
          have hm1 : (m : Int) - 1 = (j : Int) := by omega
          have wj : IntKind.i64.wrap ((m : Int) - 1) = (j : Int) := by rw [hm1]; exact IntWalk.i64_in _ (by omega)
          have hj0 : (0 : Int) ≤ (j : Int) := by omega
          have hjn : (j : Int) < (m : Int) := by omega
          have wa : IntKind.i64.wrap ((x2 : Int) - (x1 : Int)) = (x2 : Int) - (x1 : Int) := IntWalk.i64_in _ (by omega)
          have wb : IntKind.i64.wrap ((x2 : Int) - (x1 : Int) + (d : Int)) = (x2 : Int) - (x1 : Int) + (d : Int) := IntWalk.i64_in _ (by omega)
          clear hg ht hlast hb3 e0
          by_cases hfit : x2 - x1 + d ≤ 40
          · have hd40 : decide ((x2 : Int) - (x1 : Int) + (d : Int) ≤ 40) = true := decide_eq_true (by omega)
            have wc : IntKind.i64.wrap ((x2 : Int) + (d : Int)) = (x2 : Int) + (d : Int) := IntWalk.i64_in _ (by omega)
            have w9 : IntKind.i64.wrap ((pos : Int) + (s.size : Int)) = ((pos + d : Nat) : Int) := by rw [hd0]; exact (IntWalk.i64_in _ (by omega)).trans (by omega)
            have HNX0 := Lib.hid (show RWSt l us (k + 1) (pos + d) true (ts.set j ([], x1, x2 + d)) from by
              have := HNX.out
              unfold wdStep at this
              rw [HLAST.out, if_pos ⟨rfl, rfl, hfit⟩, HM.out, hjm] at this
              simpa using this)
            have c9 : ∀ q, ((wr.drewN q).setCell ⟨(ad2.add (j * 3)).block, (ad2.add (j * 3)).off + 2, none⟩ (.int .i64 ((x2 : Int) + (d : Int)))).cell? (ad.add k) = some (.string s) := fun q => HC.out _ ((Below.drewN HBW.out q).setCell (p := ⟨(ad2.add (j * 3)).block, (ad2.add (j * 3)).off + 2, none⟩) hlo _)
            clear HNX hfit hjm
            go_wp2_with fail
            refine HRU.out.mono ?_
            rintro e w' ⟨rfl, rfl⟩
            go_wp2
            go_quiet (fail)
            go_wp2
            (refine wp_region_tail 15 (by kernel_rfl) (by kernel_rfl) ?_; simp only [List.take_succ_cons, List.take_zero, List.drop_succ_cons, List.drop_zero]; repeat still_step)
            refine wpStill_nil ?_
            go_wp2
            go_roundw
            case rel => exact ⟨k + 1, pos + d, true, by omega, by go_num, by go_num, rfl, _, HNX0.out, (by
              have h1 := OwnWds.setAt (ts := ts) (u := .int .i64 ((x2 : Int) + (d : Int))) HG.out HOWN2.out HJ.out (i := 2) (by omega) (t := ([], x1, x2 + d)) (by rw [HT.out]; rfl)
              exact h1), (Below.drewN HBW.out _).setCell (p := ⟨(ad2.add (j * 3)).block, (ad2.add (j * 3)).off + 2, none⟩) hlo _⟩
            case measure => simp [intOf] <;> omega
          · have hd40 : decide ((x2 : Int) - (x1 : Int) + (d : Int) ≤ 40) = false := decide_eq_false (by omega)
            have HNX0 := Lib.hid (show RWSt l us (k + 1) (pos + d) true (ts ++ [([], pos, pos + d)]) from by have := HNX.out; unfold wdStep at this; rw [HLAST.out, if_neg (by rintro ⟨_, _, h⟩; exact hfit h)] at this; simpa using this)
            have hal : ts.length ≤ 1000000000 := by rw [HM.out]; omega
            have HAL := Lib.hid hal
            clear hal
            clear HNX
            have w9 : IntKind.i64.wrap ((pos : Int) + (s.size : Int)) = ((pos + d : Nat) : Int) := by rw [hd0]; exact (IntWalk.i64_in _ (by omega)).trans (by omega)
            clear hfit hjm
            go_wp2_with fail
            refine HRU.out.mono ?_
            rintro e w' ⟨rfl, rfl⟩
            go_wp2
            go_quiet (fail)
            go_wp2_with (at_builtin; go_must (refine wpList_pushWd (W := w'.drewN nq) (t := ([], pos, pos + d)) HOWN2.out (b0 := ⟨#[]⟩) (z1 := (pos : Int)) (z2 := (pos : Int) + (d : Int)) rfl rfl (show ((pos + d : Nat) : Int) = _ by omega) hB HAL.out rfl (.tmp 69) (.tmp 79) 1 rfl rfl (by show Value.slice (some ⟨w'.heap.size, 0, none⟩) 1 1 = _; simp) ?_); intro v2 w2 h1 h2; (have H1 := Lib.hid h1; have HB2 := Lib.hid ((Below.drewN HBW.out _).grown h2 hB fun g e => (World.ownsRow.lt HOWN2.out g e).1); have c9 := HC.out w2 HB2.out; clear h1 h2))
            go_roundw
            case rel => exact ⟨k + 1, pos + d, true, by omega, by go_num, by go_num, rfl, _, HNX0.out, H1.out, HB2.out⟩
            case measure => simp [intOf] <;> omega
      · -- a word begins: of its own class
        have HNX0 := Lib.hid (show RWSt l us (k + 1) (pos + d) false (ts ++ [([], pos, pos + d)]) from by have := HNX.out; unfold wdStep at this; simpa using this)
        have hal : ts.length ≤ 1000000000 := by rw [HM.out]; omega
        have HAL := Lib.hid hal
        clear hal
        obtain ⟨A2, c2, rfl⟩ := HOWN.out.shape
        rw [HM.out]
        have HOWN2 := Lib.hid HOWN.out
        rw [HM.out] at HOWN2
        clear HNX
        have w9 : IntKind.i64.wrap ((pos : Int) + (s.size : Int)) = ((pos + d : Nat) : Int) := by rw [hd0]; exact (IntWalk.i64_in _ (by omega)).trans (by omega)
        go_wp2_with fail
        refine HRU.out.mono ?_
        rintro e w' ⟨rfl, rfl⟩
        go_wp2
        go_quiet (fail)
        go_wp2_with (at_builtin; go_must (refine wpList_pushWd (W := w'.drewN nq) (t := ([], pos, pos + d)) HOWN2.out (b0 := ⟨#[]⟩) (z1 := (pos : Int)) (z2 := (pos : Int) + (d : Int)) rfl rfl (show ((pos + d : Nat) : Int) = _ by omega) hB HAL.out rfl (.tmp 69) (.tmp 79) 1 rfl rfl (by show Value.slice (some ⟨w'.heap.size, 0, none⟩) 1 1 = _; simp) ?_); intro v2 w2 h1 h2; (have H1 := Lib.hid h1; have HB2 := Lib.hid ((Below.drewN HBW.out _).grown h2 hB fun g e => (World.ownsRow.lt HOWN2.out g e).1); have c9 := HC.out w2 HB2.out; clear h1 h2))
        go_roundw
        case rel => exact ⟨k + 1, pos + d, false, by omega, by go_num, by go_num, rfl, _, HNX0.out, H1.out, HB2.out⟩
        case measure => simp [intOf] <;> omega
    · obtain rfl : k = n := by omega
      have HR3 := Lib.hid (hst.done (by rw [HN.out]; exact Nat.le_refl _))
      have HBARE := Lib.hid hst.bare
      have hpl := hst.posle
      have HPL := Lib.hid hpl
      have hm9 : ts.length ≤ 100000000 := by have := hst.few; omega
      obtain ⟨A2, c2, rfl⟩ := hown.shape
      have HR0 := Lib.hid (show RWRel2 w1 l ts 0 (.slice A2 ts.length c2) wr from ⟨by rw [mix_zero]; exact hown, hbw⟩)
      obtain ⟨m, hm⟩ : ∃ m, ts.length = m := ⟨_, rfl⟩
      have HM := Lib.hid hm
      rw [hm] at HR0 hm9
      rw [hm]
      clear hst hown hbw HR hm hpl hlt
      go_wp2
      go_loopw [10] (fun i W => ∃ k : Nat, k ≤ m ∧ i = .int .i64 (k : Int) ∧ Hid (RWRel2 w1 l ts k (.slice A2 m c2) W)) (fun i _ => m - (intOf i).toNat)
      case atStart => exact ⟨0, Nat.zero_le _, rfl, HR0.out⟩
      case round =>
        obtain ⟨q, hq, rfl, HR⟩ := hrel
        obtain ⟨hown, hbw⟩ := HR.out
        by_cases hlt : q < m
        · have hq2 : (q : Int) < m := by omega
          have hql : q < ts.length := by rw [HM.out]; exact hlt
          have hmix := mix_len l ts q (Nat.le_of_lt hql)
          have hmq := mix_get l ts hql
          have hset := mix_set l ts hql
          have hb3 := HBARE.out _ (List.getElem_mem hql)
          have hqm : q < (mixW l ts q).length := by rw [hmix]; exact hql
          have hmq2 : (mixW l ts q)[q]'hqm = ts[q] := by
            have := List.getElem?_eq_getElem hqm
            rw [hmq] at this
            exact (Option.some.inj this).symm
          obtain ⟨g, ad2, c3, hg, hsl, hlo, hhi, e0, e1, e2, ef, -⟩ := hown.cells hqm
          rw [hmq2] at e0 e1 e2
          have HQM := Lib.hid hqm
          have HMQ := Lib.hid hmq2
          clear hmq hmq2
          obtain ⟨t, ht⟩ : ∃ t, ts[q] = t := ⟨_, rfl⟩
          rw [ht] at hset hb3 e0 e1 e2 HMQ
          obtain ⟨t0, x1, x2⟩ := t
          dsimp only at hb3 e0 e1 e2
          have hb30 := hb3.1
          subst hb30
          have hx1 := hb3.2.1
          have hx2 := hb3.2.2
          rw [hmix, HM.out] at hsl
          injection hsl with hs1 hs2 hs3
          subst hs1; subst hs3
          have HG := Lib.hid hg
          have HSET := Lib.hid hset
          have HOWN := Lib.hid hown
          have HBW := Lib.hid hbw
          have hz := HPL.out
          have hLs : (ba l).size = l.length := ba_size l
          have s3 : x2 ≤ l.length := by omega
          have s0 : (0 : Int) ≤ (x1 : Int) := by omega
          have s1 : (x1 : Int) ≤ (x2 : Int) := by omega
          have s2 : (x2 : Int) ≤ ((ba l).size : Int) := by omega
          have HCUT := Lib.hid (show (ba l).extract x1 x2 = ba ((l.take x2).drop x1) from ba_cut l x1 x2)
          have HWA := Lib.hid (show foldP ((l.take x2).drop x1) = wordAt l (x1, x2) from rfl)
          have HF := Lib.hid (fun W => rfold_any ((l.take x2).drop x1) W (by have := HL.out; rw [List.length_drop, List.length_take]; omega))
          clear hset hmix ht hb3 hg hown hbw HR
          go_wp2
          go_region_law
            (first
              | (go_simp; go_at_call 137; rw [HCUT.out]; refine (HF.out _).mono ?_; rintro e w5 ⟨rfl, hbel⟩; (
                have HB5 := Lib.hid ((show Below wr.heap.size wr wr.drew from (Below.refl _ _).drew).trans hbel)
                have ef5 : w5.frozen? (ad2.add (q * 3)) = false := (HB5.out.frozen hhi).trans ef
                have e5 : w5.cell? (ad2.add (q * 3)) = some (.string (ba [])) := (HB5.out.cell hhi).trans e0
                clear hbel))
              | fail)
          all_goals
            go_wp2
            go_roundw
            case rel =>
              refine ⟨q + 1, by omega, by go_num, ?_, ?_⟩
              · have h1 := OwnWds.setAt (w := w5) (ts := mixW l ts q) (u := .string (ba (foldP ((l.take x2).drop x1)))) HG.out (HOWN.out.below HB5.out) HQM.out (i := 0) (by omega) (t := (wordAt l (x1, x2), x1, x2)) (by rw [HMQ.out]; rfl)
                rw [HSET.out] at h1
                have e9 : (⟨(ad2.add (q * 3)).block, (ad2.add (q * 3)).off + 0, none⟩ : Addr) = ad2.add (q * 3) := by
                  rw [← HG.out]; unfold Addr.add; split <;> rfl
                rw [e9] at h1
                exact h1
              · exact (HBW.out.trans (HB5.out.mono HBW.out.size)).setCell hlo _
            case measure => simp [intOf] <;> omega
        · obtain rfl : q = m := by omega
          have hfin := hown
          rw [← HM.out] at hfin
          have hfin2 := hfin.words (mix_all l ts HR3.out)
          have HFIN := Lib.hid hfin2
          have HBF := Lib.hid (HB.out.trans (hbw.mono hsz1))
          rw [HM.out] at HFIN
          clear hfin hfin2 hown hbw HR
          go_wp2
          go_ret
          exact ⟨_, rfl, HFIN.out.more hsz1, HBF.out⟩
end Go.Proofs.YtfinpehbpcckaaaGreatDoor
end
section
namespace Go.Proofs.YtfinpehbpcckaaaGreatDoor
open Go.RowKit
set_option linter.unusedVariables false

set_option maxRecDepth 100000 in
set_option maxHeartbeats 4000000 in
theorem rlist_any (l : List UInt8) (w : World) (hl : l.length ≤ 100000000) : Calls Tryz.prog 41 #[.string (ba l)] w (StrsBack w (listP l)) := by
  go_enter Tryz.func41, Tryz.ntmps41
  go_wp2_with fail
  refine (rwords_any l w hl).mono ?_
  rintro e w1 ⟨v, rfl, hv, hb⟩
  obtain ⟨A, c, rfl, hc1, hc2, hW⟩ := hv.wrds
  have HW := Lib.hid hW
  have HB := Lib.hid hb
  have hrl := ranges_len l
  have hll : (listP l).length = (rangesP l).length := by unfold listP; rw [List.length_map]
  obtain ⟨n, hn⟩ : ∃ n, (rangesP l).length = n := ⟨_, rfl⟩
  have hsz1 : w.heap.size ≤ w1.heap.size := hb.size
  rw [hn] at hW HW hrl hc1 hll
  have HN := Lib.hid hn
  have HLL := Lib.hid hll
  have hn9 : n ≤ 200000001 := by omega
  rw [hn]
  clear hW hb hv hn hll hrl
  go_wp2
  go_loopw [4, 5] (fun v i wr => ∃ k : Nat, k ≤ n ∧ i = .int .i64 (k : Int) ∧ Hid (ListRel w1 l k v wr)) (fun _ i _ => n - (intOf i).toNat)
  case atStart => exact ⟨0, Nat.zero_le _, rfl, OwnStrs.nil_ _ _, Below.refl _ _⟩
  case round =>
    obtain ⟨k, hk, rfl, HR⟩ := hrel
    have hsz := HR.out.2.size
    by_cases hlt : k < n
    · have hk2 : (k : Int) < n := by omega
      have hkl : k < (rangesP l).length := by rw [HN.out]; exact hlt
      obtain ⟨ad, rfl, hbl, c0, c1, c2⟩ := (HW.out.below HR.out.2).2 k hkl
      obtain ⟨r, hr⟩ : ∃ r, (rangesP l)[k] = r := ⟨_, rfl⟩
      rw [hr] at c0 c1 c2
      have HP := Lib.hid (show (listP l).take (k + 1) = (listP l).take k ++ [wordAt l r] by
        rw [List.take_succ_eq_append_getElem (by rw [HLL.out]; exact hlt)]
        unfold listP
        rw [List.getElem_map, hr])
      clear hr
      obtain ⟨t, ht⟩ : ∃ t, wordAt l r = t := ⟨_, rfl⟩
      rw [ht] at c0 HP
      clear ht
      have HOWN := Lib.hid HR.out.1
      have HAL := Lib.hid (show ((listP l).take k).length < 1099511627776 by rw [List.length_take]; omega)
      have HBEL := Lib.hid HR.out.2
      go_wp2_with (at_builtin; go_must (refine wpList_pushStr (s := t) HOWN.out hsz HAL.out rfl (.tmp 14) (.tmp 20) 42 1 rfl Tryz.underlying42 rfl rfl ?_); intro v2 w2 h1 h2 h3; (have H1 := Lib.hid h1; have H2 := Lib.hid h2; clear h1 h2 h3))
      go_roundw
      case rel =>
        refine ⟨k + 1, by omega, by go_num, ?_, HBEL.out.grown H2.out hsz fun g e => (HOWN.out.lt g e).1⟩
        rw [HP.out]
        exact H1.out
      case measure => simp [intOf] <;> omega
    · obtain rfl : k = n := by omega
      go_wp2
      go_ret
      refine ⟨_, rfl, ?_, HB.out.trans (HR.out.2.mono hsz1)⟩
      have := HR.out.1
      rw [List.take_of_length_le (by rw [HLL.out]; exact Nat.le_refl _)] at this
      exact this.more hsz1
end Go.Proofs.YtfinpehbpcckaaaGreatDoor
end
section
namespace Go.Proofs.YtfinpehbpcckaaaGreatDoor
open Go.RowKit
set_option linter.unusedVariables false

/-- No counter wraps. -/
structure SegFew (s : Seg) : Prop where
  terms : s.terms.length ≤ 5000
  docs : s.docs.length ≤ 1000000
  each : ∀ t, t ∈ s.terms → t.word.length ≤ 1000000 ∧ t.list.length ≤ 50000
theorem SegFew.at_ {s : Seg} (h : SegFew s) {k : Nat} (hk : k < s.terms.length) : (ti s.terms k).word.length ≤ 1000000 ∧ (ti s.terms k).list.length ≤ 50000 := by
  rw [ti_get hk]; exact h.each _ (List.getElem_mem hk)
/-- Both tables in memory. -/
def Tables (w : World) : Prop := fSpans w w.heap.size ∧ kSpans w w.heap.size
theorem Tables.below {w w' : World} (h : Tables w) (hb : Below w.heap.size w w') : Tables w' := ⟨(h.1.below hb).more hb.size, (h.2.below hb).more hb.size⟩
/-- The state in the second loop: the box of the segment at g. -/
def RightRel (w : World) (wr : World) : Prop := Below w.heap.size w wr
set_option maxRecDepth 100000 in
set_option maxHeartbeats 8000000 in
theorem seg_right (A D : Option Addr) (n c m d : Nat) (s : Seg) (w : World) (h : SegIn w w.heap.size A n c D m d s) (hf : SegFew s) (ht : Tables w) :
    Calls Tryz.prog 20 #[.agg #[.slice A n c, .slice D m d]] w fun e w' => e = .returned (.bool (rightP s)) ∧ Below w.heap.size w w' := by
  have H := Lib.hid h
  have HF := Lib.hid hf
  have hn9 : n ≤ 5000 := by rw [← h.terms.len]; exact hf.terms
  have hm9 : m ≤ 1000000 := by rw [← h.docs.len]; exact hf.docs
  have HN := Lib.hid h.terms.len
  have HM := Lib.hid h.docs.len
  have HLIST := Lib.hid (fun (t : List UInt8) W (htl : t.length ≤ 1000000) (hb : Below w.heap.size w W) => list_any t W (ht.below hb).1 (ht.below hb).2 (by omega))
  have HLISTED := Lib.hid (fun (l : List UInt8) W (hl : l.length ≤ 1000000) (hs : s.docs.Pairwise (· < ·)) (hb : Below w.heap.size w W) => listed_any l D m d s.docs W ((h.docs.below hb).more hb.size) hm9 hs hl)
  clear h hf ht
  go_enter Tryz.func20, Tryz.ntmps20
  go_wp2
  have hb1 : Below w.heap.size w (w.alloc (.cells #[.slice A n c, .slice D m d] 28)) := (Below.refl _ _).alloc (Nat.le_refl _) _
  have c1a : (w.alloc (.cells #[.slice A n c, .slice D m d] 28)).cell? ⟨w.heap.size, 0, none⟩ = some (.slice A n c) := by go_simp
  have c1b : (w.alloc (.cells #[.slice A n c, .slice D m d] 28)).cell? ⟨w.heap.size, 1, none⟩ = some (.slice D m d) := by go_simp
  have hz1 : w.heap.size < (w.alloc (.cells #[.slice A n c, .slice D m d] 28)).heap.size := by simp
  obtain ⟨W1, hW1⟩ : ∃ W1, w.alloc (.cells #[.slice A n c, .slice D m d] 28) = W1 := ⟨_, rfl⟩
  rw [hW1] at hb1 c1a c1b hz1 ⊢
  clear hW1
  obtain ⟨g, hg⟩ : ∃ g, w.heap.size = g := ⟨_, rfl⟩
  rw [hg] at c1a c1b hz1 ⊢
  have HG := Lib.hid hg
  have HB1 := Lib.hid hb1
  clear hg hb1
  go_loopw [11] (fun i wr => ∃ k : Nat, k ≤ m ∧ i = .int .i64 (k : Int) ∧ wr = W1 ∧ Hid (∀ j, j < k → docAt s.docs j = true)) (fun i _ => m - (intOf i).toNat)
  case atStart => exact ⟨0, Nat.zero_le _, rfl, rfl, Lib.hid fun j hj => by omega⟩
  case round =>
    obtain ⟨k, hk, rfl, rfl, HK⟩ := hrel
    by_cases hlt : k < m
    · have hk2 : (k : Int) < m := by omega
      obtain ⟨ad, rfl, hbl, c0⟩ := (H.out.docs.below HB1.out).at_ hlt
      have hkd : k < s.docs.length := by rw [HM.out]; exact hlt
      have HDA := Lib.hid (show docAt s.docs k = decide ((1 ≤ gi s.docs k ∧ gi s.docs k ≤ 1099511627776) ∧ (k = 0 ∨ gi s.docs (k - 1) < gi s.docs k)) from rfl)
      have HNO := Lib.hid (rightP_no1 hkd)
      have hbd := H.out.docs.bounds k
      obtain ⟨z, hz⟩ : ∃ z, gi s.docs k = z := ⟨_, rfl⟩
      rw [hz] at c0 HDA hbd
      clear hz hkd
      by_cases z1 : z < 1
      · have HF0 := Lib.hid (HNO.out (by rw [HDA.out]; exact decide_eq_false (by omega)))
        go_wp2
        go_ret
        exact ⟨by rw [HF0.out]; rfl, HB1.out⟩
      by_cases z2 : 1099511627776 < z
      · have HF0 := Lib.hid (HNO.out (by rw [HDA.out]; exact decide_eq_false (by omega)))
        go_wp2
        go_ret
        exact ⟨by rw [HF0.out]; rfl, HB1.out⟩
      by_cases hk0 : k = 0
      · have hk3 : ¬ (0 : Int) < (k : Int) := by omega
        have HY := Lib.hid (show docAt s.docs k = true by rw [HDA.out]; exact decide_eq_true (by omega))
        have HK0 := Lib.hid hk0
        clear hk0
        go_wp2
        go_roundw
        case rel => exact ⟨k + 1, by omega, by go_num, trivial, Lib.hid fun i hi => by
          have : i = k := by have := HK0.out; omega
          subst this; exact HY.out⟩
        case measure => simp [intOf] <;> omega
      · have hk3 : (0 : Int) < (k : Int) := by omega
        obtain ⟨j, hj⟩ : ∃ j, k - 1 = j := ⟨_, rfl⟩
        obtain ⟨ad', e', hbl', c0'⟩ := (H.out.docs.below HB1.out).at_ (show j < m by omega)
        have e2 := Option.some.inj e'
        subst e2
        have hj1 : (k : Int) - 1 = (j : Int) := by omega
        have wj : IntKind.i64.wrap ((k : Int) - 1) = (j : Int) := by rw [hj1]; exact IntWalk.i64_in _ (by omega)
        have hj0 : (0 : Int) ≤ (j : Int) := by omega
        have hjm : (j : Int) < (m : Int) := by omega
        rw [hj] at HDA
        obtain ⟨y, hy⟩ : ∃ y, gi s.docs j = y := ⟨_, rfl⟩
        rw [hy] at c0' HDA
        clear hy e'
        by_cases hzy : z ≤ y
        · have HF0 := Lib.hid (HNO.out (by rw [HDA.out]; exact decide_eq_false (by omega)))
          go_wp2
          go_ret
          exact ⟨by rw [HF0.out]; rfl, HB1.out⟩
        · have HY := Lib.hid (show docAt s.docs k = true by rw [HDA.out]; exact decide_eq_true (by omega))
          go_wp2
          go_roundw
          case rel => exact ⟨k + 1, by omega, by go_num, trivial, Lib.hid fun i hi => by
            rcases Nat.lt_or_ge i k with h | h
            · exact HK.out i h
            · have : i = k := by omega
              subst this; exact HY.out⟩
          case measure => simp [intOf] <;> omega
    · obtain rfl : k = m := by omega
      have hdk : ∀ j, j < s.docs.length → docAt s.docs j = true := fun j hj => HK.out j (by rw [← HM.out]; exact hj)
      have HDK := Lib.hid hdk
      have HASC := Lib.hid (docs_right hdk).1
      clear HK hlt hdk
      obtain ⟨W1, rfl⟩ : ∃ W1, W1 = wr := ⟨_, rfl⟩
      obtain ⟨m, rfl⟩ : ∃ m, m = k := ⟨_, rfl⟩
      go_wp2
      go_loopw [40] (fun i wr => ∃ k : Nat, k ≤ n ∧ i = .int .i64 (k : Int) ∧ Hid (Below W1.heap.size W1 wr) ∧ Hid (∀ j, j < k → termAt s j = true)) (fun i _ => n - (intOf i).toNat)
      case atStart => exact ⟨0, Nat.zero_le _, rfl, Lib.hid (Below.refl _ _), Lib.hid fun j hj => by omega⟩
      case round =>
        obtain ⟨k, hk, rfl, HBR, HK⟩ := hrel
        have hsz := HBR.out.size
        by_cases hlt : k < n
        · have hk2 : (k : Int) < n := by omega
          have HBA0 := Lib.hid (HB1.out.trans (HBR.out.mono HB1.out.size))
          obtain ⟨ad, rfl, hbl, c0, c1, c2, hbd⟩ := (H.out.terms.below HBA0.out).at_ hlt
          have hkn : k < s.terms.length := by rw [HN.out]; exact hlt
          have HNO := Lib.hid (rightP_no2 hkn)
          have hfew := HF.out.at_ hkn
          have HTA := Lib.hid (show termAt s k = (decide (1 ≤ (ti s.terms k).field ∧ (ti s.terms k).field ≤ 5) && (decide (k = 0) || decide (cmpT (ti s.terms (k - 1)) (ti s.terms k) < 0)) && decide (listP (ti s.terms k).word = [(ti s.terms k).word]) && listedP (ti s.terms k).list s.docs) from rfl)
          obtain ⟨t, htk⟩ : ∃ t, ti s.terms k = t := ⟨_, rfl⟩
          rw [htk] at c0 c1 c2 hbd hfew HTA
          obtain ⟨f, x, l⟩ := t
          dsimp only at c0 c1 c2 hbd hfew HTA
          have hx9 := hfew.1
          have hl9 : l.length ≤ 1000000 := by omega
          have HTK := Lib.hid htk
          clear hkn hfew htk
          have HWB : Hid (Below wr.heap.size wr (wr.alloc (.cells #[.int .i64 f, .string (ba x), .string (ba l)] 47))) := Lib.hid ((Below.refl _ _).alloc (Nat.le_refl _) _)
          have hws : (wr.alloc (.cells #[.int .i64 f, .string (ba x), .string (ba l)] 47)).heap.size = wr.heap.size + 1 := by simp
          have b0 : (wr.alloc (.cells #[.int .i64 f, .string (ba x), .string (ba l)] 47)).cell? ⟨wr.heap.size, 0, none⟩ = some (.int .i64 f) := by go_simp
          have b1 : (wr.alloc (.cells #[.int .i64 f, .string (ba x), .string (ba l)] 47)).cell? ⟨wr.heap.size, 1, none⟩ = some (.string (ba x)) := by go_simp
          have b2 : (wr.alloc (.cells #[.int .i64 f, .string (ba x), .string (ba l)] 47)).cell? ⟨wr.heap.size, 2, none⟩ = some (.string (ba l)) := by go_simp
          have a0 : (wr.alloc (.cells #[.int .i64 f, .string (ba x), .string (ba l)] 47)).cell? ⟨g, 0, none⟩ = some (.slice (some ad) n c) := (HWB.out.cell (p := ⟨g, 0, none⟩) (by show g < wr.heap.size; omega)).trans ((HBR.out.cell (p := ⟨g, 0, none⟩) hz1).trans c1a)
          have a1 : (wr.alloc (.cells #[.int .i64 f, .string (ba x), .string (ba l)] 47)).cell? ⟨g, 1, none⟩ = some (.slice D m d) := (HWB.out.cell (p := ⟨g, 1, none⟩) (by show g < wr.heap.size; omega)).trans ((HBR.out.cell (p := ⟨g, 1, none⟩) hz1).trans c1b)
          have HBA := Lib.hid (HBA0.out.trans (HWB.out.mono HBA0.out.size))
          have hws2 := HBA0.out.size
          by_cases f1 : f ≤ 0
          · have HF0 := Lib.hid (HNO.out (by rw [HTA.out, decide_eq_false (by omega)]; simp))
            have hd1 : decide (f ≤ 0) = true := decide_eq_true f1
            clear c1a c1b
            go_wp2
            go_quiet (fail)
            go_wp2
            go_ret
            exact ⟨by rw [HF0.out]; rfl, Below.drewN HBA.out _⟩
          have hd1 : decide (f ≤ 0) = false := decide_eq_false f1
          by_cases f2 : 6 ≤ f
          · have HF0 := Lib.hid (HNO.out (by rw [HTA.out, decide_eq_false (by omega)]; simp))
            have hd2 : decide (6 ≤ f) = true := decide_eq_true f2
            clear c1a c1b
            go_wp2
            go_quiet (fail)
            go_wp2
            go_ret
            exact ⟨by rw [HF0.out]; rfl, Below.drewN HBA.out _⟩
          have hd2 : decide (6 ≤ f) = false := decide_eq_false f2
          by_cases hk0 : k = 0
          · have hd3 : decide ((0 : Int) < (k : Int)) = false := decide_eq_false (by omega)
            have hd4 : decide (0 < k) = false := decide_eq_false (by omega)
            have HTA1 := Lib.hid (show termAt s k = (decide (1 ≤ f ∧ f ≤ 5) && true && decide (listP x = [x]) && listedP l s.docs) by rw [HTA.out, decide_eq_true hk0, Bool.true_or])
            clear HTA
            have HTA := HTA1
            clear HTA1 c1a c1b hk0
            go_wp2
            go_quiet (fail)
            go_wp2_with fail
            have HBB3 := Lib.hid (Below.drewN (Below.refl (wr.heap.size + 1) (wr.alloc (.cells #[.int .i64 f, .string (ba x), .string (ba l)] 47))) nq)
            have hz3 : ((wr.alloc (.cells #[.int .i64 f, .string (ba x), .string (ba l)] 47)).drewN nq).heap.size = wr.heap.size + 1 := hws
            refine (HLIST.out x _ hx9 (HBA.out.trans (HBB3.out.mono (by omega)))).mono ?_
            rintro e w4 ⟨v4, rfl, hv4, hb4⟩
            obtain ⟨A4, c4, rfl, -, -, hS⟩ := hv4.strs
            have HB4 := Lib.hid (HBB3.out.trans (hb4.mono (by rw [hz3]; exact Nat.le_refl _)))
            have d1 : w4.cell? ⟨wr.heap.size, 1, none⟩ = some (.string (ba x)) := (HB4.out.cell (p := ⟨wr.heap.size, 1, none⟩) (by show wr.heap.size < _; omega)).trans b1
            have d2 : w4.cell? ⟨wr.heap.size, 2, none⟩ = some (.string (ba l)) := (HB4.out.cell (p := ⟨wr.heap.size, 2, none⟩) (by show wr.heap.size < _; omega)).trans b2
            have d3 : w4.cell? ⟨g, 1, none⟩ = some (.slice D m d) := (HB4.out.cell (p := ⟨g, 1, none⟩) (by show g < _; omega)).trans a1
            have HBE4 := Lib.hid (HBA.out.trans (HB4.out.mono (by omega)))
            obtain ⟨ss, hss⟩ : ∃ ss, listP x = ss := ⟨_, rfl⟩
            rw [hss] at hS HTA ⊢
            obtain ⟨q, hq⟩ : ∃ q, ss.length = q := ⟨_, rfl⟩
            have HQ := Lib.hid hq
            rw [hq] at hS ⊢
            clear hss hq hv4 hb4 a0 a1 b0 b1 b2
            by_cases hq1 : q = 1
            · subst hq1
              obtain ⟨ad4, rfl, -, c40⟩ := hS.at_ (k := 0) (by rw [HQ.out]; omega)
              have hadd : ad4.add 0 = ad4 := by unfold Addr.add; rfl
              rw [hadd] at c40
              obtain ⟨y, hsy⟩ : ∃ y, ss = [y] := by
                have hl1 := HQ.out
                match ss, hl1 with
                | [a], _ => exact ⟨a, rfl⟩
              subst hsy
              have c41 : w4.cell? ad4 = some (.string (ba y)) := c40
              clear hS hadd HQ c40
              by_cases hyx : y = x
              · subst hyx
                have HLS := Lib.hid (fun W hb => HLISTED.out l W hl9 HASC.out hb)
                have hne3 : ((ba y).toList != (ba y).toList) = false := by simp
                go_wp2
                (refine wp_region_tail 16 (by kernel_rfl) (by kernel_rfl) ?_; simp only [List.take_succ_cons, List.take_zero, List.drop_succ_cons, List.drop_zero]; repeat still_step)
                refine wpStill_nil ?_
                go_wp2_with fail
                refine (HLS.out _ (Below.drew HBE4.out)).mono ?_
                rintro e w5 ⟨rfl, hb5⟩
                have HB5 := Lib.hid ((Below.drew (Below.refl w4.heap.size w4)).trans hb5)
                clear hb5
                obtain ⟨b, hb⟩ : ∃ b, listedP l s.docs = b := ⟨_, rfl⟩
                rw [hb] at HTA ⊢
                clear hb
                cases b
                · have HF0 := Lib.hid (HNO.out (by rw [HTA.out]; simp))
                  go_wp2
                  go_ret
                  exact ⟨by rw [HF0.out]; rfl, HBE4.out.trans (HB5.out.mono HBE4.out.size)⟩
                · have HY := Lib.hid (show termAt s k = true by rw [HTA.out, decide_eq_true (show 1 ≤ f ∧ f ≤ 5 by omega)]; simp)
                  go_wp2
                  go_roundw
                  case rel => exact ⟨k + 1, by omega, by go_num, Lib.hid (HBR.out.trans (((HWB.out.mono hsz).trans (HB4.out.mono (by omega))).trans (HB5.out.mono (by have := HB4.out.size; omega)))), Lib.hid fun i hi => by
                    rcases Nat.lt_or_ge i k with h | h
                    · exact HK.out i h
                    · have : i = k := by omega
                      subst this; exact HY.out⟩
                  case measure => simp [intOf] <;> omega
              · have hts : ¬ (ba y).toList = (ba x).toList := by rw [ba_toList, ba_toList]; exact hyx
                have HF0 := Lib.hid (HNO.out (by rw [HTA.out]; simp [hyx]))
                have hts2 : ((ba y).toList == (ba x).toList) = false := by simpa using hts
                obtain ⟨yb, hyb⟩ : ∃ yb, ba y = yb := ⟨_, rfl⟩
                obtain ⟨xb, hxb⟩ : ∃ xb, ba x = xb := ⟨_, rfl⟩
                rw [hyb] at hts2 c41
                rw [hxb] at hts2 d1
                have hne2 : (yb.toList != xb.toList) = true := by simp [bne, hts2]
                clear hyx hyb hxb hts
                go_wp2
                go_quiet (fail)
                go_wp2
                go_ret
                exact ⟨by rw [HF0.out]; rfl, Below.drewN HBE4.out _⟩
            · have hq2 : ¬ (q : Int) = 1 := by omega
              have hq3 : ((q : Int) == 1) = false := by simpa using hq2
              have hq4 : ((q : Int) != 1) = true := by simp [bne, hq3]
              have HF0 := Lib.hid (HNO.out (by
                have hnx : ss ≠ [x] := by intro e; have := HQ.out; rw [e] at this; simp at this; omega
                rw [HTA.out]; simp [hnx]))
              clear hq1
              go_wp2
              go_quiet (fail)
              go_wp2
              go_ret
              exact ⟨by rw [HF0.out]; rfl, Below.drewN HBE4.out _⟩
          · have hd3 : decide ((0 : Int) < (k : Int)) = true := decide_eq_true (by omega)
            have hd4 : decide (0 < k) = true := decide_eq_true (by omega)
            obtain ⟨j, hj⟩ : ∃ j, k - 1 = j := ⟨_, rfl⟩
            obtain ⟨ad', e', hbl', p0, p1, p2, -⟩ := (H.out.terms.below HBA0.out).at_ (show j < n by omega)
            have e2 := Option.some.inj e'
            subst e2
            have hj1 : (k : Int) - 1 = (j : Int) := by omega
            have wj : IntKind.i64.wrap ((k : Int) - 1) = (j : Int) := by rw [hj1]; exact IntWalk.i64_in _ (by omega)
            have hj0 : (0 : Int) ≤ (j : Int) := by omega
            have hjm : (j : Int) < (n : Int) := by omega
            have hjn : j < n := by omega
            have wjj : IntKind.i64.wrap (j : Int) = (j : Int) := IntWalk.i64_in _ (by omega)
            rw [hj] at HTA
            obtain ⟨t2, ht2⟩ : ∃ t2, ti s.terms j = t2 := ⟨_, rfl⟩
            rw [ht2] at p0 p1 p2 HTA
            obtain ⟨f', x', l'⟩ := t2
            dsimp only at p0 p1 p2
            have q0 : (wr.alloc (.cells #[.int .i64 f, .string (ba x), .string (ba l)] 47)).cell? (ad.add (j * 3)) = some (.int .i64 f') := (HWB.out.cell (by omega)).trans p0
            have q1 : (wr.alloc (.cells #[.int .i64 f, .string (ba x), .string (ba l)] 47)).cell? ⟨(ad.add (j * 3)).block, (ad.add (j * 3)).off + 1, none⟩ = some (.string (ba x')) := (HWB.out.cell (p := ⟨(ad.add (j * 3)).block, _, none⟩) (by show (ad.add (j * 3)).block < _; omega)).trans p1
            have q2 : (wr.alloc (.cells #[.int .i64 f, .string (ba x), .string (ba l)] 47)).cell? ⟨(ad.add (j * 3)).block, (ad.add (j * 3)).off + 2, none⟩ = some (.string (ba l')) := (HWB.out.cell (p := ⟨(ad.add (j * 3)).block, _, none⟩) (by show (ad.add (j * 3)).block < _; omega)).trans p2
            have HTA1 := Lib.hid (show termAt s k = (decide (1 ≤ f ∧ f ≤ 5) && decide (cmpT ⟨f', x', l'⟩ ⟨f, x, l⟩ < 0) && decide (listP x = [x]) && listedP l s.docs) by rw [HTA.out, decide_eq_false hk0, Bool.false_or])
            clear HTA
            have HTA := HTA1
            have hrc := cmpT_cases ⟨f', x', l'⟩ ⟨f, x, l⟩
            have HCMP := Lib.hid (fun W => compare_any f' f x' x l' l W)
            obtain ⟨r, hr⟩ : ∃ r, cmpT ⟨f', x', l'⟩ ⟨f, x, l⟩ = r := ⟨_, rfl⟩
            rw [hr] at HTA hrc
            have HR := Lib.hid hr
            clear HTA1 c1a c1b hk0 ht2 p0 p1 p2 e' hr
            go_wp2
            (refine wp_region_tail 19 (by kernel_rfl) (by kernel_rfl) ?_; simp only [List.take_succ_cons, List.take_zero, List.drop_succ_cons, List.drop_zero]; repeat still_step)
            refine wpStill_nil ?_
            go_wp2_with fail
            refine (HCMP.out _).mono ?_
            rintro e w3 ⟨rfl, hb3⟩
            rw [HR.out]
            have HBB3 := Lib.hid (show Below (wr.heap.size + 1) (wr.alloc (.cells #[.int .i64 f, .string (ba x), .string (ba l)] 47)) w3 from (Below.drew (Below.refl _ _)).trans (hb3.mono (by show wr.heap.size + 1 ≤ _; exact Nat.le_of_eq hws.symm)))
            have hz3 : wr.heap.size + 1 ≤ w3.heap.size := by have := HBB3.out.size; omega
            clear hb3
            have e31 : w3.cell? ⟨wr.heap.size, 1, none⟩ = some (.string (ba x)) := (HBB3.out.cell (p := ⟨wr.heap.size, 1, none⟩) (by show wr.heap.size < _; omega)).trans b1
            rcases hrc with rfl | rfl | rfl
            · go_wp2_with fail
              refine (HLIST.out x _ hx9 (HBA.out.trans (HBB3.out.mono (by omega)))).mono ?_
              rintro e w4 ⟨v4, rfl, hv4, hb4⟩
              obtain ⟨A4, c4, rfl, -, -, hS⟩ := hv4.strs
              have HB4 := Lib.hid (HBB3.out.trans (hb4.mono hz3))
              have d1 : w4.cell? ⟨wr.heap.size, 1, none⟩ = some (.string (ba x)) := (HB4.out.cell (p := ⟨wr.heap.size, 1, none⟩) (by show wr.heap.size < _; omega)).trans b1
              have d2 : w4.cell? ⟨wr.heap.size, 2, none⟩ = some (.string (ba l)) := (HB4.out.cell (p := ⟨wr.heap.size, 2, none⟩) (by show wr.heap.size < _; omega)).trans b2
              have d3 : w4.cell? ⟨g, 1, none⟩ = some (.slice D m d) := (HB4.out.cell (p := ⟨g, 1, none⟩) (by show g < _; omega)).trans a1
              have HBE4 := Lib.hid (HBA.out.trans (HB4.out.mono (by omega)))
              obtain ⟨ss, hss⟩ : ∃ ss, listP x = ss := ⟨_, rfl⟩
              rw [hss] at hS HTA ⊢
              obtain ⟨q, hq⟩ : ∃ q, ss.length = q := ⟨_, rfl⟩
              have HQ := Lib.hid hq
              rw [hq] at hS ⊢
              clear hss hq hv4 hb4 a0 a1 b0 b1 b2
              by_cases hq1 : q = 1
              · subst hq1
                obtain ⟨ad4, rfl, -, c40⟩ := hS.at_ (k := 0) (by rw [HQ.out]; omega)
                have hadd : ad4.add 0 = ad4 := by unfold Addr.add; rfl
                rw [hadd] at c40
                obtain ⟨y, hsy⟩ : ∃ y, ss = [y] := by
                  have hl1 := HQ.out
                  match ss, hl1 with
                  | [a], _ => exact ⟨a, rfl⟩
                subst hsy
                have c41 : w4.cell? ad4 = some (.string (ba y)) := c40
                clear hS hadd HQ c40
                by_cases hyx : y = x
                · subst hyx
                  have HLS := Lib.hid (fun W hb => HLISTED.out l W hl9 HASC.out hb)
                  have hne3 : ((ba y).toList != (ba y).toList) = false := by simp
                  go_wp2
                  (refine wp_region_tail 16 (by kernel_rfl) (by kernel_rfl) ?_; simp only [List.take_succ_cons, List.take_zero, List.drop_succ_cons, List.drop_zero]; repeat still_step)
                  refine wpStill_nil ?_
                  go_wp2_with fail
                  refine (HLS.out _ (Below.drew HBE4.out)).mono ?_
                  rintro e w5 ⟨rfl, hb5⟩
                  have HB5 := Lib.hid ((Below.drew (Below.refl w4.heap.size w4)).trans hb5)
                  clear hb5
                  obtain ⟨b, hb⟩ : ∃ b, listedP l s.docs = b := ⟨_, rfl⟩
                  rw [hb] at HTA ⊢
                  clear hb
                  cases b
                  · have HF0 := Lib.hid (HNO.out (by rw [HTA.out]; simp))
                    go_wp2
                    go_ret
                    exact ⟨by rw [HF0.out]; rfl, HBE4.out.trans (HB5.out.mono HBE4.out.size)⟩
                  · have HY := Lib.hid (show termAt s k = true by rw [HTA.out, decide_eq_true (show 1 ≤ f ∧ f ≤ 5 by omega)]; simp)
                    go_wp2
                    go_roundw
                    case rel => exact ⟨k + 1, by omega, by go_num, Lib.hid (HBR.out.trans (((HWB.out.mono hsz).trans (HB4.out.mono (by omega))).trans (HB5.out.mono (by have := HB4.out.size; omega)))), Lib.hid fun i hi => by
                      rcases Nat.lt_or_ge i k with h | h
                      · exact HK.out i h
                      · have : i = k := by omega
                        subst this; exact HY.out⟩
                    case measure => simp [intOf] <;> omega
                · have hts : ¬ (ba y).toList = (ba x).toList := by rw [ba_toList, ba_toList]; exact hyx
                  have HF0 := Lib.hid (HNO.out (by rw [HTA.out]; simp [hyx]))
                  have hts2 : ((ba y).toList == (ba x).toList) = false := by simpa using hts
                  obtain ⟨yb, hyb⟩ : ∃ yb, ba y = yb := ⟨_, rfl⟩
                  obtain ⟨xb, hxb⟩ : ∃ xb, ba x = xb := ⟨_, rfl⟩
                  rw [hyb] at hts2 c41
                  rw [hxb] at hts2 d1
                  have hne2 : (yb.toList != xb.toList) = true := by simp [bne, hts2]
                  clear hyx hyb hxb hts
                  go_wp2
                  go_quiet (fail)
                  go_wp2
                  go_ret
                  exact ⟨by rw [HF0.out]; rfl, Below.drewN HBE4.out _⟩
              · have hq2 : ¬ (q : Int) = 1 := by omega
                have hq3 : ((q : Int) == 1) = false := by simpa using hq2
                have hq4 : ((q : Int) != 1) = true := by simp [bne, hq3]
                have HF0 := Lib.hid (HNO.out (by
                  have hnx : ss ≠ [x] := by intro e; have := HQ.out; rw [e] at this; simp at this; omega
                  rw [HTA.out]; simp [hnx]))
                clear hq1
                go_wp2
                go_quiet (fail)
                go_wp2
                go_ret
                exact ⟨by rw [HF0.out]; rfl, Below.drewN HBE4.out _⟩
            · have HF0 := Lib.hid (HNO.out (by rw [HTA.out]; simp))
              go_wp2
              go_ret
              exact ⟨by rw [HF0.out]; rfl, HBA.out.trans (HBB3.out.mono (by omega))⟩
            · have HF0 := Lib.hid (HNO.out (by rw [HTA.out]; simp))
              go_wp2
              go_ret
              exact ⟨by rw [HF0.out]; rfl, HBA.out.trans (HBB3.out.mono (by omega))⟩
        · obtain rfl : k = n := by omega
          have HY := Lib.hid (rightP_iff.2 ⟨HDK.out, fun j hj => HK.out j (by rw [← HN.out]; exact hj)⟩)
          go_wp2
          go_ret
          exact ⟨by rw [HY.out]; rfl, HB1.out.trans (HBR.out.mono HB1.out.size)⟩
end Go.Proofs.YtfinpehbpcckaaaGreatDoor
end
section
namespace Go.Proofs.YtfinpehbpcckaaaGreatDoor
set_option linter.unusedVariables false

theorem orP_places {a b : List Post} (ha : Fine a) (hb : Fine b) {A B : Nat} (h1 : ∀ p, p ∈ a → p.places.length ≤ A) (h2 : ∀ p, p ∈ b → p.places.length ≤ B) : ∀ q, q ∈ orP a b → q.places.length ≤ A + B := by
  intro q hq
  obtain ⟨e, he, rfl⟩ := List.mem_map.1 hq
  have ho := evs_ok a b ha.docs hb.docs e he
  obtain ⟨x, y⟩ := e
  cases x with
  | none => cases y with
    | none => exact ho.elim
    | some y => have := h2 y ho.1; show y.places.length ≤ _; omega
  | some x => cases y with
    | none => have := h1 x ho.1; show x.places.length ≤ _; omega
    | some y =>
      have h3 := h1 x ho.1
      have h4 := h2 y ho.2.1
      have h5 := unionP_len x.places y.places
      show (unionP x.places y.places).length ≤ _
      omega
theorem right_dec {s : Seg} (h : rightP s = true) {k : Nat} (hk : k < s.terms.length) : ∃ p, postDec (ti s.terms k).list = some p ∧ p ≠ [] := by
  have h1 := (rightP_iff.1 h).2 k hk
  unfold termAt at h1
  rw [Bool.and_eq_true] at h1
  have h2 := h1.2
  unfold listedP at h2
  cases e : postDec (ti s.terms k).list with
  | none => rw [e] at h2; cases h2
  | some p =>
    rw [e] at h2
    refine ⟨p, rfl, ?_⟩
    intro e2
    rw [e2] at h2
    simp at h2
theorem dec_fine {l : List UInt8} (hl : l.length ≤ 50000) : Fine ((postDec l).getD []) ∧ ((postDec l).getD []).length ≤ 50000 ∧ ∀ q, q ∈ (postDec l).getD [] → q.places.length ≤ 50000 := by
  cases e : postDec l with
  | none => exact ⟨Fine.nil_, Nat.zero_le _, fun q hq => by cases hq⟩
  | some p =>
    obtain ⟨h1, h2, h3, h4⟩ := postDec_some (by omega) e
    exact ⟨fine_of_right h1, by show p.length ≤ _; omega, fun q hq => by have := h4 q hq; omega⟩
structure FoundOk (l : List Post) (k : Nat) : Prop where
  fine : Fine l
  len : l.length ≤ 50000 * k
  places : ∀ q, q ∈ l → q.places.length ≤ 50000 * k
theorem FoundOk.or {a b : List Post} {k : Nat} (h : FoundOk a k) (hb : Fine b) (h1 : b.length ≤ 50000) (h2 : ∀ q, q ∈ b → q.places.length ≤ 50000) : FoundOk (orP a b) (k + 1) := by
  refine ⟨orP_fine h.fine hb, ?_, ?_⟩
  · have := orP_len a b; have := h.len; omega
  · intro q hq
    have := orP_places h.fine hb h.places h2 q hq
    omega
theorem FoundOk.more {a : List Post} {k j : Nat} (h : FoundOk a k) (hk : k ≤ j) : FoundOk a j :=
  ⟨h.fine, by have := h.len; have := Nat.mul_le_mul_left 50000 hk; omega, fun q hq => by have := h.places q hq; have := Nat.mul_le_mul_left 50000 hk; omega⟩
theorem found_take {s : Seg} {field : Int} {p : List UInt8 → Bool} {k : Nat} (hk : k < s.terms.length) : foundL (s.terms.take (k + 1)) field p =
    if (field = 0 ∨ field = (ti s.terms k).field) ∧ p (ti s.terms k).word = true then orP (foundL (s.terms.take k) field p) ((postDec (ti s.terms k).list).getD []) else foundL (s.terms.take k) field p := by
  rw [List.take_succ_eq_append_getElem hk, foundL_snoc, ti_get hk]
theorem found_ok {s : Seg} (hf : SegFew s) (field : Int) (p : List UInt8 → Bool) : ∀ k, k ≤ s.terms.length → FoundOk (foundL (s.terms.take k) field p) k
  | 0, _ => ⟨by rw [List.take_zero]; exact Fine.nil_, by simp [foundL], fun q hq => by rw [List.take_zero] at hq; cases hq⟩
  | k + 1, hk => by
    have ih := found_ok hf field p k (by omega)
    rw [found_take (by omega)]
    split
    · obtain ⟨h1, h2, h3⟩ := dec_fine (hf.at_ (k := k) (by omega)).2
      exact ih.or h1 h2 h3
    · exact ih.more (by omega)
end Go.Proofs.YtfinpehbpcckaaaGreatDoor
end
