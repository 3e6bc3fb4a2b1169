/- Layer 5: the contract of the program's Fold. Layer 32: the closure of Words: a word ends. Layer 32, plain: the length of a unit as the library tells it; what one round of Words leaves. Layer 32: the contract of Words. A row of strings of the call's own, and append of one string. Layer 32: the contract of List. Layer 5: the reference's Rune. -/
import Derived.Deep.RegionLaw
import Derived.Lib.Small
import Derived.Test.YtfinpehbpcckaaaGreatDoorM08
import Derived.Test.YtfinpehbpcckaaaGreatDoorM10
import Derived.Test.YtfinpehbpcckaaaGreatDoorM03
import Derived.Test.YtfinpehbpcckaaaGreatDoorM09
section
namespace Go.Proofs.YtfinpehbpcckaaaGreatDoor
open Go.RowKit
set_option linter.unusedVariables false

theorem hasPrefix_any (s p : List UInt8) (w : World) : Calls Tryz.prog 76 #[.string (ba s), .string (ba p)] w fun e w' => e = .returned (.bool (decide (p <+: s))) ∧ w = w' := by
  refine (Tryz.strings_HasPrefix (ba s) (ba p) w).mono ?_
  rintro e w' ⟨rfl, rfl⟩
  refine ⟨congrArg (fun b => Ending.returned (.bool b)) ?_, rfl⟩
  rw [ba_list, ba_list, Bool.eq_iff_iff, decide_eq_true_iff]
  exact List.isPrefixOf_iff_prefix
def FoldRel (w : World) (s : ByteArray) (l : List UInt8) (pos : Nat) (wr : World) : Prop := ∃ acc, Bld wr w.heap.size w.heap.size acc ∧ wr.heap[w.heap.size + 1]? = some (.stringIter s pos) ∧ Below w.heap.size w wr ∧ acc ++ foldP (l.drop pos) = foldP l ∧ acc.length = pos
set_option maxRecDepth 100000 in
set_option maxHeartbeats 4000000 in
theorem fold_any (l : List UInt8) (w : World) (hs : fSpans w w.heap.size) (hl : l.length ≤ 1000000000) : Calls Tryz.prog 109 #[.string (ba l)] w (StrPost w (foldP l)) := by
  obtain ⟨s, hse⟩ : ∃ s, ba l = s := ⟨_, rfl⟩
  have hsz : s.size = l.length := by rw [← hse, ba_size]
  rw [hse]
  have HS := Lib.hid hse
  have HSZ := Lib.hid hsz
  have HSP := Lib.hid hs
  rw [← hsz] at hl
  clear hse hsz hs
  go_enter Tryz.func109, Tryz.ntmps109
  go_wp2
  go_loopw [] (fun wr => ∃ pos : Nat, pos ≤ s.size ∧ Hid (FoldRel w s l pos wr)) (fun wr => s.size - wr.iterPos (w.heap.size + 1))
  case atStart =>
    refine ⟨0, Nat.zero_le _, [], (bld_new w).alloc _, ?_, ((Below.refl _ w).alloc (Nat.le_refl _) _).alloc (by simp) _, rfl, rfl⟩
    have := World.iter_heap (w.alloc (.cells #[.pointer none, .slice none 0 0] 78)) s 0
    simpa using this
  case round =>
    obtain ⟨pos, hpos, HR⟩ := hrel
    obtain ⟨acc, hbld, hit, hbw, hacc, hal⟩ := HR.out
    have hszr : w.heap.size + 1 < wr.heap.size := heap_lt hit
    by_cases hp : pos < s.size
    · have hne : l.drop pos ≠ [] := by intro e; have := congrArg List.length e; rw [List.length_drop, ← HSZ.out] at this; simp at this; omega
      have hnx0 : ∀ ty, (Instr.next (.pointer (some ⟨w.heap.size + 1, 0, none⟩)) true ty).run Tryz.prog wr = _ := fun ty => Lib.run_next_any_at wr (w.heap.size + 1) s pos ty hit hp
      have hdec : Utf8.decode s pos = uN (l.drop pos) := by rw [← HS.out]; exact uN_at l pos
      have hup := uN_pos _ hne
      have hstep := step_fold hne
      have hfc := foldP_cons hne
      have hful := foldU_len _ hne
      rw [List.drop_drop] at hfc
      obtain ⟨⟨r, n⟩, hrn⟩ : ∃ q, uN (l.drop pos) = q := ⟨_, rfl⟩
      rw [hrn] at hdec hup hstep hfc hful
      rw [hdec] at hnx0
      dsimp only at hup hstep hfc hful hnx0
      rw [List.length_drop, ← HSZ.out] at hup
      have hbld2 : Bld (wr.iterAt (w.heap.size + 1) s (pos + n)) w.heap.size w.heap.size acc := Lib.IsBuilderF.iterAt hbld hit (pos + n)
      have hit2 := Lib.iterAt_heap wr (w.heap.size + 1) s pos (pos + n) hit
      have hbw2 := Lib.below_iterAt hbw (k := w.heap.size + 1) (by omega) s (pos + n)
      have hsz2 : w.heap.size ≤ (wr.iterAt (w.heap.size + 1) s (pos + n)).heap.size := by rw [Lib.iterAt_size]; omega
      obtain ⟨W, hW⟩ : ∃ W, wr.iterAt (w.heap.size + 1) s (pos + n) = W := ⟨_, rfl⟩
      rw [hW] at hnx0 hbld2 hit2 hbw2 hsz2
      have hnx := hnx0
      have HBLD := Lib.hid hbld2
      have HIT := Lib.hid hit2
      have HBW := Lib.hid hbw2
      have HACC := Lib.hid (show ∀ u, u = foldU (l.drop pos) → (acc ++ u) ++ foldP (l.drop (pos + n)) = foldP l ∧ (acc ++ u).length = pos + n from fun u hu => by
        subst hu
        refine ⟨by rw [← hacc, hfc, List.append_assoc], by rw [List.length_append, hal, hful]⟩)
      have HST := Lib.hid hstep
      have HAL := Lib.hid hal
      have HIT0 := Lib.hid hit
      clear hnx0 hrn hdec hbld hbld2 hit2 hbw2 hacc hfc hful hstep HR hbw hal hit hW
      have hi0 : (0 : Int) ≤ (pos : Int) := by omega
      have hi1 : (pos : Int) < (s.size : Int) := by omega
      by_cases hr : r = 65533
      · have hreq : ((r : Int) == 65533) = true := by simp [hr]
        have HRR := Lib.hid hr
        clear hr
        have hcut : s.extract pos s.size = ba (l.drop pos) := by rw [← HS.out]; exact ba_drop _ _
        have HCUT := Lib.hid hcut
        clear hcut
        go_wp2_with fail
        rw [HCUT.out]
        refine (hasPrefix_any (l.drop pos) [239, 191, 189] W).mono ?_
        rintro e w4 ⟨rfl, rfl⟩
        by_cases hpre : [239, 191, 189] <+: l.drop pos
        · rw [decide_eq_true hpre]
          have HU := Lib.hid (show Lib.encodeRune (rlower r) = foldU (l.drop pos) by rw [← HST.out, if_neg (fun h => h.2 hpre)])
          clear hpre
          go_wp2_with fail
          refine (lower_any r W ((HSP.out.below HBW.out).more HBW.out.size) (by omega) (by omega)).mono ?_
          rintro e w5 ⟨rfl, hb5⟩
          have hlw := rlower_low (r := (r : Int)) (by omega)
          have HB5 := Lib.hid (HBLD.out.below hb5)
          have HI5 := Lib.hid ((hb5.block _ (heap_lt HIT.out)).trans HIT.out)
          have HW5 := Lib.hid (HBW.out.trans (hb5.mono HBW.out.size))
          have hs5 : w.heap.size ≤ w5.heap.size := Nat.le_trans HBW.out.size hb5.size
          clear hb5
          go_wp2_with fail
          refine (write_rune w.heap.size w.heap.size acc (rlower r) w5 HB5.out (by have := HAL.out; omega) hs5 (by omega) (by omega)).mono ?_
          rintro e w6 ⟨rfl, h6⟩
          have HF := Lib.hid (show w6.heap[w.heap.size + 1]? = some (.stringIter s (pos + n)) ∧ FoldRel w s l (pos + n) w6 from ⟨h6.oth.iter HI5.out (by omega), _, h6.bld, h6.oth.iter HI5.out (by omega), HW5.out.trans h6.bel, (HACC.out _ HU.out).1, (HACC.out _ HU.out).2⟩)
          clear h6
          go_wp2
          go_roundw
          case rel => exact ⟨pos + n, by omega, HF.out.2⟩
          case measure =>
            simp only [World.iterPos, HF.out.1, HIT0.out]
            omega
        · rw [decide_eq_false hpre]
          have HU := Lib.hid (show (l.drop pos).take 1 = foldU (l.drop pos) by rw [← HST.out, if_pos ⟨HRR.out, hpre⟩])
          clear hpre
          have hge : s[pos]'hp = l[pos]'(by rw [← HSZ.out]; exact hp) := by have := HS.out; subst this; rfl
          have HGE := Lib.hid hge
          clear hge
          go_wp2_with fail
          refine (write_byte w.heap.size w.heap.size acc (s[pos]'hp) W HBLD.out (by have := HAL.out; omega) HBW.out.size).mono ?_
          rintro e w6 ⟨rfl, h6⟩
          have HU1 := Lib.hid (show [s[pos]'hp] = foldU (l.drop pos) by rw [← HU.out, HGE.out, List.drop_eq_getElem_cons (by rw [← HSZ.out]; exact hp)]; rfl)
          have HF := Lib.hid (show w6.heap[w.heap.size + 1]? = some (.stringIter s (pos + n)) ∧ FoldRel w s l (pos + n) w6 from ⟨h6.oth.iter HIT.out (by omega), _, h6.bld, h6.oth.iter HIT.out (by omega), HBW.out.trans h6.bel, (HACC.out _ HU1.out).1, (HACC.out _ HU1.out).2⟩)
          clear h6
          go_wp2
          go_roundw
          case rel => exact ⟨pos + n, by omega, HF.out.2⟩
          case measure =>
            simp only [World.iterPos, HF.out.1, HIT0.out]
            omega
      · have hreq : ((r : Int) == 65533) = false := by simp; omega
        have HU := Lib.hid (show Lib.encodeRune (rlower r) = foldU (l.drop pos) by rw [← HST.out, if_neg (fun h => hr h.1)])
        go_wp2_with fail
        refine (lower_any r W ((HSP.out.below HBW.out).more HBW.out.size) (by omega) (by omega)).mono ?_
        rintro e w5 ⟨rfl, hb5⟩
        have hlw := rlower_low (r := (r : Int)) (by omega)
        have HB5 := Lib.hid (HBLD.out.below hb5)
        have HI5 := Lib.hid ((hb5.block _ (heap_lt HIT.out)).trans HIT.out)
        have HW5 := Lib.hid (HBW.out.trans (hb5.mono HBW.out.size))
        have hs5 : w.heap.size ≤ w5.heap.size := Nat.le_trans HBW.out.size hb5.size
        clear hb5
        go_wp2_with fail
        refine (write_rune w.heap.size w.heap.size acc (rlower r) w5 HB5.out (by have := HAL.out; omega) hs5 (by omega) (by omega)).mono ?_
        rintro e w6 ⟨rfl, h6⟩
        have HF := Lib.hid (show w6.heap[w.heap.size + 1]? = some (.stringIter s (pos + n)) ∧ FoldRel w s l (pos + n) w6 from ⟨h6.oth.iter HI5.out (by omega), _, h6.bld, h6.oth.iter HI5.out (by omega), HW5.out.trans h6.bel, (HACC.out _ HU.out).1, (HACC.out _ HU.out).2⟩)
        clear h6
        go_wp2
        go_roundw
        case rel => exact ⟨pos + n, by omega, HF.out.2⟩
        case measure =>
          simp only [World.iterPos, HF.out.1, HIT0.out]
          omega
    · have hnx : ∀ ty, (Instr.next (.pointer (some ⟨w.heap.size + 1, 0, none⟩)) true ty).run Tryz.prog wr = _ := fun ty => Lib.run_next_end_at wr (w.heap.size + 1) s pos ty hit hp
      have HBLD := Lib.hid hbld
      have HBW := Lib.hid hbw
      have HF := Lib.hid (show acc = foldP l by
        rw [← hacc, List.drop_of_length_le (by rw [← HSZ.out]; omega)]; simp [foldP_nil])
      clear hbld hbw hacc hal hit HR
      go_wp2_with fail
      refine (bld_string w.heap.size w.heap.size acc wr HBLD.out HBW.out.size).mono ?_
      rintro e w6 ⟨rfl, h6⟩
      have H6 := Lib.hid (HBW.out.trans h6.bel)
      clear h6
      go_wp2
      go_ret
      exact ⟨by rw [HF.out]; rfl, H6.out⟩
end Go.Proofs.YtfinpehbpcckaaaGreatDoor
end
section
namespace Go.Proofs.YtfinpehbpcckaaaGreatDoor
open Go.RowKit
set_option linter.unusedVariables false

theorem cell_box {w : World} {b : Nat} {v : Value} {T : TypeId} (h : w.heap[b]? = some (.cells #[v] T (0, 0))) : w.cell? ⟨b, 0, none⟩ = some v := by simp [World.cell?, h]
theorem frozen_box {w : World} {b : Nat} {v : Value} {T : TypeId} (h : w.heap[b]? = some (.cells #[v] T (0, 0))) : w.frozen? ⟨b, 0, none⟩ = false := by simp [World.frozen?, h]
/-- What Words keeps while it runs: the text at block g, the words behind it, and where the word under way begins. -/
def WState (w : World) (g : Nat) (l : List UInt8) (f : Int) (ws : List (Nat × Nat)) : Prop :=
  w.heap[g]? = some (.cells #[.string (ba l)] 9 (0, 0)) ∧ w.heap[g + 2]? = some (.cells #[.int .i64 f] 3 (0, 0)) ∧ ∃ v, w.heap[g + 1]? = some (.cells #[v] 103 (0, 0)) ∧ OwnWords w (g + 4) v l ws
def EndPost (w : World) (g : Nat) (l : List UInt8) (ws : List (Nat × Nat)) (r : Ending) (w' : World) : Prop := r = .returned (.tuple #[]) ∧ WState w' g l (-1) ws ∧ Off (fun k => g ≤ k) w w' ∧ w'.heap[g + 3]? = w.heap[g + 3]?
theorem WState.put {w : World} {g : Nat} {l : List UInt8} {f : Int} {ws : List (Nat × Nat)} (h : WState w g l f ws) (f' : Int) : WState (w.setCell ⟨g + 2, 0, none⟩ (.int .i64 f')) g l f' ws ∧ Off (fun k => g ≤ k) w (w.setCell ⟨g + 2, 0, none⟩ (.int .i64 f')) ∧ (w.setCell ⟨g + 2, 0, none⟩ (.int .i64 f')).heap[g + 3]? = w.heap[g + 3]? := by
  obtain ⟨h1, h2, v, h3, h4⟩ := h
  have hO : Off (· = g + 2) w (w.setCell ⟨g + 2, 0, none⟩ (.int .i64 f')) := (Off.refl (· = g + 2) w).setCell (p := ⟨g + 2, 0, none⟩) (.inl rfl) _
  have l1 := heap_lt h1
  have l3 := heap_lt h3
  refine ⟨⟨(hO.block g l1 (by omega)).trans h1, heap_setCell_same w (g + 2) 0 _ 3 _ h2, v, (hO.block (g + 1) l3 (by omega)).trans h3, ownsRow_block h4 fun b e => hO.block b (h4.lt b e).2 (by have := (h4.lt b e).1; omega)⟩, ?_, heap_setCell_other w ⟨g + 2, 0, none⟩ (g + 3) _ (by show g + 3 ≠ g + 2; omega)⟩
  exact (Off.refl (fun k => g ≤ k) w).setCell (p := ⟨g + 2, 0, none⟩) (.inl (by show g ≤ g + 2; omega)) _
theorem add_word {w w3 w8 : World} {g : Nat} (hs3 : g + 3 < w.heap.size) {l : List UInt8} {f : Int} {v v' : Value} {ws : List (Nat × Nat)} {r : Nat × Nat} (hb : Below w.heap.size w w3) (hbox : w.heap[g + 1]? = some (.cells #[v] 103 (0, 0))) (h1 : w.heap[g]? = some (.cells #[.string (ba l)] 9 (0, 0))) (h2 : w.heap[g + 2]? = some (.cells #[.int .i64 f] 3 (0, 0)))
    (hown : OwnWords w (g + 4) v l ws) (h8 : OwnWords w8 (g + 4) v' l (ws ++ [r])) (hg : w3.grownBy w8 v.ownBlock) :
    w8.heap[g + 1]? = some (.cells #[v] 103 (0, 0)) ∧ WState (w8.setCell ⟨g + 1, 0, none⟩ v') g l f (ws ++ [r]) ∧ Off (fun k => g ≤ k) w (w8.setCell ⟨g + 1, 0, none⟩ v') ∧ (w8.setCell ⟨g + 1, 0, none⟩ v').heap[g + 3]? = w.heap[g + 3]? := by
  have old : ∀ k, k ≤ g + 3 → k < w.heap.size → w8.heap[k]? = w.heap[k]? := fun k hk hs => (hg.block k (by have := hb.size; omega) fun e => by have := (hown.lt k e.symm).1; omega).trans (hb.block k hs)
  have k1 := (old g (by omega) (heap_lt h1)).trans h1
  have k2 := (old (g + 2) (by omega) (heap_lt h2)).trans h2
  have k3 := (old (g + 1) (by omega) (heap_lt hbox)).trans hbox
  have hO : Off (· = g + 1) w8 (w8.setCell ⟨g + 1, 0, none⟩ v') := (Off.refl (· = g + 1) w8).setCell (p := ⟨g + 1, 0, none⟩) (.inl rfl) _
  refine ⟨k3, ⟨(hO.block g (heap_lt k1) (by omega)).trans k1, (hO.block (g + 2) (heap_lt k2) (by omega)).trans k2, v', heap_setCell_same w8 (g + 1) 0 _ _ _ k3, ownsRow_block h8 fun b e => hO.block b (h8.lt b e).2 (by have := (h8.lt b e).1; omega)⟩, ?_, (heap_setCell_other w8 ⟨g + 1, 0, none⟩ (g + 3) _ (by show g + 3 ≠ g + 1; omega)).trans (old (g + 3) (Nat.le_refl _) hs3)⟩
  exact (((Off.refl (fun k => g ≤ k) w).trans (Off.of_below hb fun k hk hle => absurd hle (by have := heap_lt h1; omega))).grown hg fun k e => .inl (by have := (hown.lt k e).1; omega)).setCell (p := ⟨g + 1, 0, none⟩) (.inl (by show g ≤ g + 1; omega)) _
set_option maxRecDepth 100000 in
set_option maxHeartbeats 4000000 in
theorem end_any (g : Nat) (l : List UInt8) (f : Int) (ws : List (Nat × Nat)) (t : Nat) (w : World) (hl : l.length ≤ 1000000000) (ht : t ≤ l.length) (hf : f = -1 ∨ 0 ≤ f ∧ f ≤ t) (hst : WState w g l f ws) (hlen : ws.length ≤ 1000000000) (hs : fSpans w g) (hs3 : g + 3 < w.heap.size) :
    Calls Tryz.prog 108 #[.int .i64 (t : Int), .pointer (some ⟨g + 2, 0, none⟩), .pointer (some ⟨g + 1, 0, none⟩), .pointer (some ⟨g, 0, none⟩)] w (EndPost w g l (wEnd f t ws)) := by
  rcases hf with rfl | ⟨hf0, hft⟩
  · have hp := hst.put (-1)
    have HP := Lib.hid hp
    obtain ⟨h1, h2, v, h3, h4⟩ := hst
    have c2 : w.cell? ⟨g + 2, 0, none⟩ = some (.int .i64 (-1)) := cell_box h2
    have f2 : w.frozen? ⟨g + 2, 0, none⟩ = false := frozen_box h2
    clear hp h1 h2 h3 h4
    go_enter Tryz.func108, Tryz.ntmps108
    go_wp2
    go_end0
    exact ⟨rfl, HP.out.1, HP.out.2.1, HP.out.2.2⟩
  · have HST := Lib.hid hst
    obtain ⟨h1, h2, v, h3, h4⟩ := hst
    obtain ⟨n, rfl⟩ : ∃ n : Nat, f = n := ⟨f.toNat, by omega⟩
    obtain ⟨A, c, rfl, -, -⟩ := h4.shape
    have l1 := heap_lt h1
    have l2 := heap_lt h2
    have l3 := heap_lt h3
    have c0 : w.cell? ⟨g, 0, none⟩ = some (.string (ba l)) := cell_box h1
    have c1 : w.cell? ⟨g + 1, 0, none⟩ = some (.slice A ws.length c) := cell_box h3
    have c2 : w.cell? ⟨g + 2, 0, none⟩ = some (.int .i64 (n : Int)) := cell_box h2
    have hnt : (n : Int) ≤ (t : Int) := hft
    have htl : (t : Int) ≤ ((ba l).size : Int) := by rw [ba_size]; omega
    have HF := Lib.hid (fold_any ((l.take t).drop n) w.drew (show fSpans w.drew w.drew.heap.size from (hs.more (show g ≤ w.heap.size by omega))) (by rw [List.length_drop, List.length_take]; omega))
    have HCUT := Lib.hid (ba_cut l n t)
    have HL := Lib.hid hlen
    have HOWN := Lib.hid h4
    have HBX := Lib.hid h3
    have HTX := Lib.hid h1
    have HFX := Lib.hid h2
    clear h1 h2 h3 h4 hlen
    clear hs hft
    go_enter Tryz.func108, Tryz.ntmps108
    go_wp2
    go_region_law
      (first
        | (go_simp; go_at_call 109; rw [HCUT.out]; refine HF.out.mono ?_; rintro e w1 ⟨rfl, hbel⟩; (
          have HB1 := Lib.hid ((Below.refl _ _).drew.trans hbel)
          have HO1 := Lib.hid (HOWN.out.below HB1.out)
          have hs1 : g + 4 ≤ w1.heap.size := Nat.le_trans hs3 hbel.size
          have e0 : w1.cell? ⟨g, 0, none⟩ = some (.string (ba l)) := (HB1.out.cell (p := ⟨g, 0, none⟩) l1).trans c0
          have e1 : w1.cell? ⟨g + 1, 0, none⟩ = some (.slice A ws.length c) := (HB1.out.cell (p := ⟨g + 1, 0, none⟩) l3).trans c1
          have e2 : w1.cell? ⟨g + 2, 0, none⟩ = some (.int .i64 (n : Int)) := (HB1.out.cell (p := ⟨g + 2, 0, none⟩) l2).trans c2
          have e6 : (w1.alloc (.cells #[.string (ba (foldP ((l.take t).drop n))), .int .i64 (n : Int), .int .i64 (t : Int)] 106)).cell? ⟨g + 1, 0, none⟩ = some (.slice A ws.length c) := (World.cell?_of_block (a := ⟨g + 1, 0, none⟩) (heap_alloc_old w1 _ (by show g + 1 < w1.heap.size; omega))).trans e1
          clear hbel))
        | (refine step_pushWord (r := (n, t)) HO1.out hs1 HL.out rfl (.tmp 7) (.tmp 16) 1 rfl rfl rfl ?_; intro v' w8 hown8 hg8; (
          obtain ⟨A8, c8, hv8, -, -⟩ := hown8.shape
          rw [List.length_append, List.length_singleton] at hv8
          subst hv8
          obtain ⟨k3, k4, k5, k6⟩ := add_word hs3 HB1.out HBX.out HTX.out HFX.out HOWN.out hown8 hg8
          have e3 : w8.cell? ⟨g + 1, 0, none⟩ = some (.slice A ws.length c) := cell_box k3
          have ef : w8.frozen? ⟨g + 1, 0, none⟩ = false := frozen_box k3
          obtain ⟨k7, k8, k9⟩ := k4.put (-1)
          have e4 : (w8.setCell ⟨g + 1, 0, none⟩ (.slice A8 (ws.length + 1) c8)).cell? ⟨g + 2, 0, none⟩ = some (.int .i64 (n : Int)) := cell_box k4.2.1
          have e5 : (w8.setCell ⟨g + 1, 0, none⟩ (.slice A8 (ws.length + 1) c8)).frozen? ⟨g + 2, 0, none⟩ = false := frozen_box k4.2.1
          have HE := Lib.hid (And.intro k7 (And.intro (k5.trans k8) (k9.trans k6)))
          clear k3 k4 k5 k6 k7 k8 k9 hown8 hg8))
        | fail)
    all_goals
      go_wp2
      go_end0
      have hf := HE.out
      exact ⟨rfl, by unfold wEnd; rw [if_pos (by omega)]; exact hf.1, hf.2.1, hf.2.2⟩
end Go.Proofs.YtfinpehbpcckaaaGreatDoor
end
section
namespace Go.Proofs.YtfinpehbpcckaaaGreatDoor
set_option linter.unusedVariables false

theorem runeLen_unit {l : List UInt8} (h : l ≠ []) (hr : (uN l).1 ≠ 65533) : Lib.runeLen ((uN l).1 : Int) = ((uN l).2 : Int) := by
  have h1 := uN_cases l h
  have b0 := bt_lt l 0
  have b1 := bt_lt l 1
  have b2 := bt_lt l 2
  have b3 := bt_lt l 3
  unfold Lib.runeLen
  generalize (uN l).1 = r at *
  generalize (uN l).2 = n at *
  generalize bt l 0 = x0 at *
  generalize bt l 1 = x1 at *
  generalize bt l 2 = x2 at *
  generalize bt l 3 = x3 at *
  clear h
  rcases h1 with ⟨rfl, ⟨h1, rfl⟩ | ⟨h1, rfl⟩⟩ | ⟨rfl, h⟩ | ⟨rfl, h⟩ | ⟨rfl, h⟩
  · repeat' split
    all_goals omega
  · exact absurd rfl hr
  all_goals
    repeat' split
    all_goals omega
theorem wKind_bad {l : List UInt8} (h : (uN l).1 = 65533) : wKind l = 0 := by unfold wKind; rw [if_pos h]
theorem wKind_ok {l : List UInt8} (h : (uN l).1 ≠ 65533) : wKind l = kindP (uN l).1 := by unfold wKind; rw [if_neg h]
theorem wStep_none {l : List UInt8} {a : Nat} {f : Int} {ws : List (Nat × Nat)} (h : wKind l = 0) : wStep l a f ws = (-1, wEnd f a ws) := by unfold wStep; rw [if_pos h]
theorem wStep_own {l : List UInt8} {a : Nat} {f : Int} {ws : List (Nat × Nat)} (h : wKind l = 2) : wStep l a f ws = (-1, wEnd (a : Int) (a + (uN l).2) (wEnd f a ws)) := by
  unfold wStep; rw [if_neg (by rw [h]; decide), if_pos h]
  show _ = (-1, if (0 : Int) ≤ (a : Int) then _ else _)
  rw [if_pos (by omega)]; rfl
theorem wStep_long {l : List UInt8} {a : Nat} {f : Int} {ws : List (Nat × Nat)} (h : wKind l = 1) (h1 : 0 ≤ f) (h2 : 40 < (a : Int) + (uN l).2 - f) : wStep l a f ws = ((a : Int), wEnd f a ws) := by
  unfold wStep; rw [if_neg (by rw [h]; decide), if_neg (by rw [h]; decide), if_pos ⟨h1, h2⟩]
theorem wStep_new {l : List UInt8} {a : Nat} {f : Int} {ws : List (Nat × Nat)} (h : wKind l = 1) (h1 : f < 0) : wStep l a f ws = ((a : Int), ws) := by
  unfold wStep; rw [if_neg (by rw [h]; decide), if_neg (by rw [h]; decide), if_neg (by rintro ⟨h3, _⟩; omega), if_pos h1]
theorem wStep_more {l : List UInt8} {a : Nat} {f : Int} {ws : List (Nat × Nat)} (h : wKind l = 1) (h1 : 0 ≤ f) (h2 : ¬ 40 < (a : Int) + (uN l).2 - f) : wStep l a f ws = (f, ws) := by
  unfold wStep; rw [if_neg (by rw [h]; decide), if_neg (by rw [h]; decide), if_neg (by rintro ⟨_, h3⟩; exact h2 h3), if_neg (by omega)]
theorem wEnd_len (f : Int) (t : Nat) (ws : List (Nat × Nat)) : (wEnd f t ws).length ≤ ws.length + 1 := by
  unfold wEnd; split <;> simp
end Go.Proofs.YtfinpehbpcckaaaGreatDoor
end
section
namespace Go.Proofs.YtfinpehbpcckaaaGreatDoor
open Go.RowKit
set_option linter.unusedVariables false

theorem WState.below {w w' : World} {g : Nat} {l : List UInt8} {f : Int} {ws : List (Nat × Nat)} (h : WState w g l f ws) (hb : Below w.heap.size w w') : WState w' g l f ws := by
  obtain ⟨h1, h2, v, h3, h4⟩ := h
  exact ⟨(hb.block _ (heap_lt h1)).trans h1, (hb.block _ (heap_lt h2)).trans h2, v, (hb.block _ (heap_lt h3)).trans h3, h4.below hb⟩
theorem WState.iter {w : World} {g : Nat} {l : List UInt8} {f : Int} {ws : List (Nat × Nat)} (h : WState w g l f ws) (s : ByteArray) (p : Nat) : WState (w.iterAt (g + 3) s p) g l f ws := by
  obtain ⟨h1, h2, v, h3, h4⟩ := h
  exact ⟨(Lib.iterAt_other w (g + 3) g s p (by omega)).trans h1, (Lib.iterAt_other w (g + 3) (g + 2) s p (by omega)).trans h2, v, (Lib.iterAt_other w (g + 3) (g + 1) s p (by omega)).trans h3, ownsRow_block h4 fun b e => Lib.iterAt_other w (g + 3) b s p (by have := (h4.lt b e).1; omega)⟩
theorem WState.from_ {w : World} {g : Nat} {l : List UInt8} {f : Int} {ws : List (Nat × Nat)} (h : WState w g l f ws) : w.cell? ⟨g + 1 + 1, 0, none⟩ = some (.int .i64 f) ∧ w.frozen? ⟨g + 1 + 1, 0, none⟩ = false := ⟨cell_box h.2.1, frozen_box h.2.1⟩
theorem words_new (w : World) (l : List UInt8) : WState ((((w.alloc (.cells #[.string (ba l)] 9)).alloc (.cells #[.slice none 0 0] 103)).alloc (.cells #[.int .i64 (-1)] 3)).alloc (.stringIter (ba l) 0)) w.heap.size l (-1) [] := by
  have s1 : (w.alloc (.cells #[.string (ba l)] 9)).heap.size = w.heap.size + 1 := by simp
  have s2 : ((w.alloc (.cells #[.string (ba l)] 9)).alloc (.cells #[.slice none 0 0] 103)).heap.size = w.heap.size + 2 := by simp
  have h1 := (MapKept.heap_alloc w (.cells #[.string (ba l)] 9)).1
  have h2 := (MapKept.heap_alloc (w.alloc (.cells #[.string (ba l)] 9)) (.cells #[.slice none 0 0] 103)).1
  have h3 := (MapKept.heap_alloc ((w.alloc (.cells #[.string (ba l)] 9)).alloc (.cells #[.slice none 0 0] 103)) (.cells #[.int .i64 (-1)] 3)).1
  rw [s1] at h2
  rw [s2] at h3
  refine ⟨?_, ?_, .slice none 0 0, ?_, OwnWords.nil_ _ _ _⟩
  · rw [heap_alloc_old _ _ (by simp only [World.size_alloc]; omega), heap_alloc_old _ _ (by simp only [World.size_alloc]; omega), heap_alloc_old _ _ (by simp only [World.size_alloc]; omega)]; exact h1
  · rw [heap_alloc_old _ _ (by simp only [World.size_alloc]; omega)]; exact h3
  · rw [heap_alloc_old _ _ (by simp only [World.size_alloc]; omega), heap_alloc_old _ _ (by simp only [World.size_alloc]; omega)]; exact h2
/-- What Words has at the head of its loop. -/
def WordsRel (w : World) (l : List UInt8) (pos : Nat) (wr : World) : Prop :=
  ∃ f ws, WState wr w.heap.size l f ws ∧ wr.heap[w.heap.size + 3]? = some (.stringIter (ba l) pos) ∧ Below w.heap.size w wr ∧ wFrom (l.drop pos) pos f ws = rangesP l ∧ ws.length ≤ 2 * pos ∧ (f = -1 ∨ 0 ≤ f ∧ f ≤ pos)
def WordsBack (w : World) (l : List UInt8) (e : Ending) (w' : World) : Prop := ∃ v, e = .returned v ∧ OwnWords w' w.heap.size v l (rangesP l) ∧ Below w.heap.size w w'
theorem OwnWords.more {w : World} {B B' : Nat} {v : Value} {l : List UInt8} {ws : List (Nat × Nat)} (h : OwnWords w B v l ws) (hB : B' ≤ B) : OwnWords w B' v l ws := by
  refine ⟨h.1, ?_⟩
  rcases h.2 with h | ⟨g, cap, cur, h1, h2, h3⟩
  · exact .inl h
  · exact .inr ⟨g, cap, cur, h1, by omega, h3⟩
set_option maxRecDepth 100000 in
set_option maxHeartbeats 4000000 in
theorem words_any (l : List UInt8) (w : World) (hf : fSpans w w.heap.size) (hk : kSpans w w.heap.size) (hl : l.length ≤ 100000000) : Calls Tryz.prog 77 #[.string (ba l)] w (WordsBack w l) := by
  have HSF := Lib.hid hf
  have HSK := Lib.hid hk
  have hsz : (ba l).size = l.length := ba_size l
  have HSZ := Lib.hid hsz
  rw [← hsz] at hl
  clear hsz hf hk
  go_enter Tryz.func77, Tryz.ntmps77
  go_wp2
  go_loopw [] (fun wr => ∃ pos : Nat, pos ≤ (ba l).size ∧ Hid (WordsRel w l pos wr)) (fun wr => (ba l).size - wr.iterPos (w.heap.size + 3))
  case atStart =>
    refine ⟨0, Nat.zero_le _, -1, [], words_new w l, ?_, (((Below.refl w.heap.size w).alloc (Nat.le_refl _) _).alloc (by simp) _).alloc (by simp; omega) _ |>.alloc (by simp; omega) _, rfl, by simp, .inl rfl⟩
    have := (MapKept.heap_alloc (((w.alloc (.cells #[.string (ba l)] 9)).alloc (.cells #[.slice none 0 0] 103)).alloc (.cells #[.int .i64 (-1)] 3)) (.stringIter (ba l) 0)).1
    rw [World.size_alloc, World.size_alloc, World.size_alloc] at this
    exact this
  case round =>
    obtain ⟨pos, hpos, HR⟩ := hrel
    obtain ⟨f, ws, hst, hit, hbw, hfr, hlen, hff⟩ := HR.out
    have hszr : w.heap.size + 3 < wr.heap.size := heap_lt hit
    by_cases hp : pos < (ba l).size
    · have hne : l.drop pos ≠ [] := by intro e; have := congrArg List.length e; rw [List.length_drop, ← HSZ.out] at this; simp at this; omega
      have hnx0 : ∀ ty, (Instr.next (.pointer (some ⟨w.heap.size + 3, 0, none⟩)) true ty).run Tryz.prog wr = _ := fun ty => Lib.run_next_any_at wr (w.heap.size + 3) (ba l) pos ty hit hp
      have hdec : Utf8.decode (ba l) pos = uN (l.drop pos) := uN_at l pos
      have hup := uN_pos _ hne
      have hrl := fun h => runeLen_unit hne h
      have hkb := @wKind_bad (l.drop pos)
      have hko := @wKind_ok (l.drop pos)
      rw [wFrom_cons hne, List.drop_drop] at hfr
      obtain ⟨st, hstp⟩ : ∃ q, wStep (l.drop pos) pos f ws = q := ⟨_, rfl⟩
      have s0 := @wStep_none (l.drop pos) pos f ws
      have s1 := @wStep_own (l.drop pos) pos f ws
      have s2 := @wStep_long (l.drop pos) pos f ws
      have s3 := @wStep_new (l.drop pos) pos f ws
      have s4 := @wStep_more (l.drop pos) pos f ws
      rw [hstp] at hfr s0 s1 s2 s3 s4
      obtain ⟨⟨r, n⟩, hrn⟩ : ∃ q, uN (l.drop pos) = q := ⟨_, rfl⟩
      rw [hrn] at hdec hup hrl hkb hko hfr s1 s2 s4
      rw [hdec] at hnx0
      dsimp only at hup hrl hkb hko hfr hnx0 s1 s2 s4
      rw [List.length_drop, ← HSZ.out] at hup
      have hst2 := hst.iter (ba l) (pos + n)
      have hit2 := Lib.iterAt_heap wr (w.heap.size + 3) (ba l) pos (pos + n) hit
      have hbw2 := Lib.below_iterAt hbw (k := w.heap.size + 3) (by omega) (ba l) (pos + n)
      have hsz2 : w.heap.size + 3 < (wr.iterAt (w.heap.size + 3) (ba l) (pos + n)).heap.size := by rw [Lib.iterAt_size]; omega
      obtain ⟨W, hW⟩ : ∃ W, wr.iterAt (w.heap.size + 3) (ba l) (pos + n) = W := ⟨_, rfl⟩
      rw [hW] at hnx0 hst2 hit2 hbw2 hsz2
      have hnx := hnx0
      have HST := Lib.hid hst2
      have HIT := Lib.hid hit2
      have HBW := Lib.hid hbw2
      have HIT0 := Lib.hid hit
      have HKB := Lib.hid hkb
      have HKO := Lib.hid hko
      have HRL := Lib.hid hrl
      have HS := Lib.hid (And.intro s0 (And.intro s1 (And.intro s2 (And.intro s3 s4))))
      have HFIN := Lib.hid (show ∀ (W : World) (f' : Int) (ws' : List (Nat × Nat)), st = (f', ws') → WState W w.heap.size l f' ws' → W.heap[w.heap.size + 3]? = some (.stringIter (ba l) (pos + n)) → Below w.heap.size w W → ws'.length ≤ 2 * (pos + n) → (f' = -1 ∨ 0 ≤ f' ∧ f' ≤ pos) → WordsRel w l (pos + n) W from
        fun W f' ws' e h1 h2 h3 h4 h5 => ⟨f', ws', h1, h2, h3, by rw [e] at hfr; exact hfr, h4, by omega⟩)
      have HLN := Lib.hid hlen
      have HFF := Lib.hid hff
      clear hnx0 hrn hdec hst hst2 hit hit2 hbw hbw2 hfr hlen hff hkb hko hrl s0 s1 s2 s3 s4 HR hstp hW
      have hi0 : (0 : Int) ≤ (pos : Int) := by omega
      have hi1 : (pos : Int) < ((ba l).size : Int) := by omega
      by_cases hr : r = 65533
      · have hreq : ((r : Int) == 65533) = true := by simp [hr]
        have HRE := Lib.hid (show Lib.runeLen (r : Int) = 3 by rw [hr]; decide)
        have HWK := Lib.hid (HKB.out hr)
        clear hr
        go_wp2_with fail
        refine (Tryz.utf8_RuneLen (r : Int) W).mono ?_
        rintro e w1 ⟨rfl, rfl⟩
        rw [HRE.out]
        go_wp2_with fail
        refine (kind_any r w1 ((HSK.out.below HBW.out).more HBW.out.size) (by omega)).mono ?_
        rintro e w2 ⟨rfl, hb2⟩
        have HST2 := Lib.hid (HST.out.below hb2)
        have HBW2 := Lib.hid (HBW.out.trans (hb2.mono HBW.out.size))
        have HIT2 := Lib.hid ((hb2.block _ (heap_lt HIT.out)).trans HIT.out)
        clear hb2
        go_wp2_with fail
        refine (end_any w.heap.size l f ws pos w2 (by rw [← HSZ.out]; omega) (by rw [← HSZ.out]; omega) HFF.out HST2.out (by have := HLN.out; omega) (HSF.out.below HBW2.out) (heap_lt HIT2.out)).mono ?_
        rintro e w3 ⟨rfl, hst3, hO3, hi3⟩
        have HST3 := Lib.hid hst3
        have HBW3 := Lib.hid (HBW2.out.trans (hO3.below HBW2.out.size (fun k h => h)))
        have HIT3 := Lib.hid (hi3.trans HIT2.out)
        have hln3 := wEnd_len f pos ws
        have HLN3 := Lib.hid (show (wEnd f pos ws).length ≤ 2 * pos + 1 by have := HLN.out; omega)
        clear hst3 hO3 hi3 hln3
        have HF := Lib.hid (show w3.heap[w.heap.size + 3]? = some (.stringIter (ba l) (pos + n)) ∧ WordsRel w l (pos + n) w3 from ⟨HIT3.out, HFIN.out w3 _ _ (HS.out.1 HWK.out) HST3.out HIT3.out HBW3.out (by have := HLN3.out; omega) (.inl rfl)⟩)
        go_wp2
        go_roundw
        case rel => exact ⟨pos + n, by omega, HF.out.2⟩
        case measure =>
          simp only [World.iterPos, HF.out.1, HIT0.out]
          omega
      · have hreq : ((r : Int) == 65533) = false := by simp; omega
        have HRE := Lib.hid (HRL.out hr)
        have HWO := Lib.hid (HKO.out hr)
        clear hr
        go_wp2_with fail
        refine (Tryz.utf8_RuneLen (r : Int) W).mono ?_
        rintro e w1 ⟨rfl, rfl⟩
        rw [HRE.out]
        go_wp2_with fail
        refine (kind_any r w1 ((HSK.out.below HBW.out).more HBW.out.size) (by omega)).mono ?_
        rintro e w2 ⟨rfl, hb2⟩
        have HST2 := Lib.hid (HST.out.below hb2)
        have HBW2 := Lib.hid (HBW.out.trans (hb2.mono HBW.out.size))
        have HIT2 := Lib.hid ((hb2.block _ (heap_lt HIT.out)).trans HIT.out)
        clear hb2
        obtain ⟨kd, hkd⟩ : ∃ x, kindP (r : Int) = x := ⟨_, rfl⟩
        have hkc := wKind_cases (l.drop pos)
        rw [HWO.out, hkd] at hkc
        rw [hkd]
        have HKD := Lib.hid (HWO.out.trans hkd)
        clear hkd
        rcases hkc with rfl | rfl | rfl
        · have HWK := Lib.hid HKD.out
          go_wp2_with fail
          refine (end_any w.heap.size l f ws pos w2 (by rw [← HSZ.out]; omega) (by rw [← HSZ.out]; omega) HFF.out HST2.out (by have := HLN.out; omega) (HSF.out.below HBW2.out) (heap_lt HIT2.out)).mono ?_
          rintro e w3 ⟨rfl, hst3, hO3, hi3⟩
          have HST3 := Lib.hid hst3
          have HBW3 := Lib.hid (HBW2.out.trans (hO3.below HBW2.out.size (fun k h => h)))
          have HIT3 := Lib.hid (hi3.trans HIT2.out)
          have hln3 := wEnd_len f pos ws
          have HLN3 := Lib.hid (show (wEnd f pos ws).length ≤ 2 * pos + 1 by have := HLN.out; omega)
          clear hst3 hO3 hi3 hln3
          have HF := Lib.hid (show w3.heap[w.heap.size + 3]? = some (.stringIter (ba l) (pos + n)) ∧ WordsRel w l (pos + n) w3 from ⟨HIT3.out, HFIN.out w3 _ _ (HS.out.1 HWK.out) HST3.out HIT3.out HBW3.out (by have := HLN3.out; omega) (.inl rfl)⟩)
          go_wp2
          go_roundw
          case rel => exact ⟨pos + n, by omega, HF.out.2⟩
          case measure =>
            simp only [World.iterPos, HF.out.1, HIT0.out]
            omega
        · obtain ⟨c2, f2⟩ := HST2.out.from_
          rcases HFF.out with hf | ⟨hf0, hf1⟩
          · subst hf
            have HP := Lib.hid (HST2.out.put (pos : Int))
            have HF := Lib.hid (show (w2.setCell ⟨w.heap.size + 1 + 1, 0, none⟩ (.int .i64 (pos : Int))).heap[w.heap.size + 3]? = some (.stringIter (ba l) (pos + n)) ∧ WordsRel w l (pos + n) (w2.setCell ⟨w.heap.size + 1 + 1, 0, none⟩ (.int .i64 (pos : Int))) from by
              have hi := HP.out.2.2.trans HIT2.out
              exact ⟨hi, HFIN.out _ _ _ (HS.out.2.2.2.1 HKD.out (by omega)) HP.out.1 hi (HBW2.out.trans (HP.out.2.1.below HBW2.out.size (fun k h => h))) (by have := HLN.out; omega) (.inr ⟨by omega, by omega⟩)⟩)
            go_wp2
            go_roundw
            case rel => exact ⟨pos + n, by omega, HF.out.2⟩
            case measure =>
              simp only [World.iterPos, HF.out.1, HIT0.out]
              omega
          · by_cases hlong : (40 : Int) < (pos : Int) + (n : Int) - f
            · have HX := Lib.hid (HS.out.2.2.1 HKD.out hf0 hlong)
              go_wp2_with fail
              refine (end_any w.heap.size l f ws pos w2 (by rw [← HSZ.out]; omega) (by rw [← HSZ.out]; omega) HFF.out HST2.out (by have := HLN.out; omega) (HSF.out.below HBW2.out) (heap_lt HIT2.out)).mono ?_
              rintro e w3 ⟨rfl, hst3, hO3, hi3⟩
              have HST3 := Lib.hid hst3
              have HBW3 := Lib.hid (HBW2.out.trans (hO3.below HBW2.out.size (fun k h => h)))
              have HIT3 := Lib.hid (hi3.trans HIT2.out)
              have hln3 := wEnd_len f pos ws
              have HLN3 := Lib.hid (show (wEnd f pos ws).length ≤ 2 * pos + 1 by have := HLN.out; omega)
              clear hst3 hO3 hi3 hln3
              obtain ⟨d2, g2⟩ := HST3.out.from_
              have HP := Lib.hid (HST3.out.put (pos : Int))
              have HF := Lib.hid (show (w3.setCell ⟨w.heap.size + 1 + 1, 0, none⟩ (.int .i64 (pos : Int))).heap[w.heap.size + 3]? = some (.stringIter (ba l) (pos + n)) ∧ WordsRel w l (pos + n) (w3.setCell ⟨w.heap.size + 1 + 1, 0, none⟩ (.int .i64 (pos : Int))) from by
                have hi := HP.out.2.2.trans HIT3.out
                exact ⟨hi, HFIN.out _ _ _ HX.out HP.out.1 hi (HBW3.out.trans (HP.out.2.1.below HBW3.out.size (fun k h => h))) (by have := HLN3.out; omega) (.inr ⟨by omega, by omega⟩)⟩)
              go_wp2
              go_roundw
              case rel => exact ⟨pos + n, by omega, HF.out.2⟩
              case measure =>
                simp only [World.iterPos, HF.out.1, HIT0.out]
                omega
            · have HX := Lib.hid (HS.out.2.2.2.2 HKD.out hf0 (by omega))
              have HF := Lib.hid (show w2.heap[w.heap.size + 3]? = some (.stringIter (ba l) (pos + n)) ∧ WordsRel w l (pos + n) w2 from ⟨HIT2.out, HFIN.out _ _ _ HX.out HST2.out HIT2.out HBW2.out (by have := HLN.out; omega) (.inr ⟨hf0, hf1⟩)⟩)
              go_wp2
              go_roundw
              case rel => exact ⟨pos + n, by omega, HF.out.2⟩
              case measure =>
                simp only [World.iterPos, HF.out.1, HIT0.out]
                omega
        · have HX := Lib.hid (HS.out.2.1 HKD.out)
          go_wp2_with fail
          refine (end_any w.heap.size l f ws pos w2 (by rw [← HSZ.out]; omega) (by rw [← HSZ.out]; omega) HFF.out HST2.out (by have := HLN.out; omega) (HSF.out.below HBW2.out) (heap_lt HIT2.out)).mono ?_
          rintro e w3 ⟨rfl, hst3, hO3, hi3⟩
          have HST3 := Lib.hid hst3
          have HBW3 := Lib.hid (HBW2.out.trans (hO3.below HBW2.out.size (fun k h => h)))
          have HIT3 := Lib.hid (hi3.trans HIT2.out)
          have hln3 := wEnd_len f pos ws
          have HLN3 := Lib.hid (show (wEnd f pos ws).length ≤ 2 * pos + 1 by have := HLN.out; omega)
          clear hst3 hO3 hi3 hln3
          obtain ⟨d2, g2⟩ := HST3.out.from_
          have HP := Lib.hid (HST3.out.put (pos : Int))
          go_wp2_with fail
          rw [show ((pos : Int) + (n : Int)) = ((pos + n : Nat) : Int) from by omega]
          obtain ⟨W4, hW4⟩ : ∃ W4, w3.setCell ⟨w.heap.size + 1 + 1, 0, none⟩ (.int .i64 (pos : Int)) = W4 := ⟨_, rfl⟩
          have HP4 : Hid (WState W4 w.heap.size l pos (wEnd f pos ws) ∧ Off (fun k => w.heap.size ≤ k) w3 W4 ∧ W4.heap[w.heap.size + 3]? = w3.heap[w.heap.size + 3]?) := by rw [← hW4]; exact HP
          rw [hW4]
          clear HP hW4 d2 g2
          have HBW4 := Lib.hid (HBW3.out.trans (HP4.out.2.1.below HBW3.out.size (fun k h => h)))
          have HIT4 := Lib.hid (HP4.out.2.2.trans HIT3.out)
          refine (end_any w.heap.size l (pos : Int) (wEnd f pos ws) (pos + n) W4 (by rw [← HSZ.out]; omega) (by rw [← HSZ.out]; omega) (.inr ⟨by omega, by omega⟩) HP4.out.1 (by have := HLN3.out; omega) (HSF.out.below HBW4.out) (heap_lt HIT4.out)).mono ?_
          rintro e w5 ⟨rfl, hst5, hO5, hi5⟩
          have HST5 := Lib.hid hst5
          have HBW5 := Lib.hid (HBW4.out.trans (hO5.below HBW4.out.size (fun k h => h)))
          have HIT5 := Lib.hid (hi5.trans HIT4.out)
          have HLN5 := Lib.hid (show (wEnd (pos : Int) (pos + n) (wEnd f pos ws)).length ≤ 2 * pos + 2 by have := wEnd_len (pos : Int) (pos + n) (wEnd f pos ws); have := HLN3.out; omega)
          clear hst5 hO5 hi5
          have HF := Lib.hid (show w5.heap[w.heap.size + 3]? = some (.stringIter (ba l) (pos + n)) ∧ WordsRel w l (pos + n) w5 from ⟨HIT5.out, HFIN.out w5 _ _ HX.out HST5.out HIT5.out HBW5.out (by have := HLN5.out; omega) (.inl rfl)⟩)
          go_wp2
          go_roundw
          case rel => exact ⟨pos + n, by omega, HF.out.2⟩
          case measure =>
            simp only [World.iterPos, HF.out.1, HIT0.out]
            omega
    · have hpe : pos = (ba l).size := by omega
      have hnx : ∀ ty, (Instr.next (.pointer (some ⟨w.heap.size + 3, 0, none⟩)) true ty).run Tryz.prog wr = _ := fun ty => Lib.run_next_end_at wr (w.heap.size + 3) (ba l) pos ty hit hp
      have c0 : wr.cell? ⟨w.heap.size, 0, none⟩ = some (.string (ba l)) := cell_box hst.1
      have HST := Lib.hid hst
      have HIT := Lib.hid hit
      have HBW := Lib.hid hbw
      have HFF := Lib.hid hff
      have HLN := Lib.hid hlen
      have HFR := Lib.hid (show wEnd f pos ws = rangesP l by
        rw [← hfr, List.drop_of_length_le (by rw [← HSZ.out]; omega), wFrom_nil])
      clear hst hit hbw hff hlen hfr HR
      go_wp2_with fail
      rw [show (((ba l).size : Nat) : Int) = ((pos : Nat) : Int) from by omega]
      refine (end_any w.heap.size l f ws pos wr (by rw [← HSZ.out]; omega) (by rw [← HSZ.out]; omega) HFF.out HST.out (by have := HLN.out; omega) (HSF.out.below HBW.out) (heap_lt HIT.out)).mono ?_
      rintro e w3 ⟨rfl, hst3, hO3, hi3⟩
      rw [HFR.out] at hst3
      obtain ⟨-, -, v, hv1, hv2⟩ := hst3
      have HV := Lib.hid hv2
      have c1 := cell_box hv1
      have HBW3 := Lib.hid (HBW.out.trans (hO3.below HBW.out.size (fun k h => h)))
      clear hv1 hv2 hO3 hi3
      go_wp2
      go_ret
      exact ⟨v, rfl, HV.out.more (by omega), HBW3.out⟩
end Go.Proofs.YtfinpehbpcckaaaGreatDoor
end
section
namespace Go.Proofs.YtfinpehbpcckaaaGreatDoor
open Go.RowKit
set_option linter.unusedVariables false

theorem str_info : (Tryz.prog.info? 9).map (fun i => (i.zero, i.size, i.bytes)) = some (some (.string ByteArray.empty), 1, 16) := by kernel_rfl
def sv (l : List (List UInt8)) : List Value := l.map fun s => .string (ba s)
theorem sv_snoc (l : List (List UInt8)) (s : List UInt8) : sv (l ++ [s]) = sv l ++ [.string (ba s)] := by simp [sv]
/-- v owns the strings ss, in a row of its own from B on. -/
def OwnStrs (w : World) (B : Nat) (v : Value) (ss : List (List UInt8)) : Prop := w.ownsRow B 9 1 v ss.length (sv ss)
theorem OwnStrs.nil_ (w : World) (B : Nat) : OwnStrs w B (.slice none 0 0) [] := World.ownsRow_nil _ _ _ _
theorem OwnStrs.below {w w' : World} {B : Nat} {v : Value} {ss : List (List UInt8)} (h : OwnStrs w B v ss) (hb : Below w.heap.size w w') : OwnStrs w' B v ss :=
  ownsRow_block h fun b e => hb.block b (h.lt b e).2
theorem OwnStrs.block {w w' : World} {B : Nat} {v : Value} {ss : List (List UInt8)} (h : OwnStrs w B v ss) (hb : ∀ b, v.ownBlock = some b → w'.heap[b]? = w.heap[b]?) : OwnStrs w' B v ss := ownsRow_block h hb
theorem OwnStrs.more {w : World} {B B' : Nat} {v : Value} {ss : List (List UInt8)} (h : OwnStrs w B v ss) (hB : B' ≤ B) : OwnStrs w B' v ss := by
  refine ⟨h.1, ?_⟩
  rcases h.2 with h | ⟨g, cap, cur, h1, h2, h3⟩
  · exact .inl h
  · exact .inr ⟨g, cap, cur, h1, by omega, h3⟩
/-- A run of strings in memory. -/
def Strs (w : World) (B : Nat) (A : Option Addr) (n : Nat) (ss : List (List UInt8)) : Prop := n = ss.length ∧ Run w B A (sv ss)
theorem OwnStrs.strs {w : World} {B : Nat} {v : Value} {ss : List (List UInt8)} (h : OwnStrs w B v ss) : ∃ A c, v = .slice A ss.length c ∧ ss.length ≤ c ∧ c ≤ maxLen ∧ Strs w w.heap.size A ss.length ss := by
  have h0 := h
  rcases h.2 with ⟨rfl, hn⟩ | ⟨g, cap, cur, rfl, hb, hg, h1, h2, h3, h4⟩
  · have : ss = [] := List.eq_nil_of_length_eq_zero hn
    subst this
    exact ⟨none, 0, rfl, Nat.le_refl _, by simp, rfl, .inl rfl⟩
  · exact ⟨_, cap, rfl, h1, h2, rfl, Run.of_own h0⟩
/-- append of one string onto a slice of the call's own. -/
theorem wpList_pushStr {ops : Array Oper} {rest : List Oper} {o : Oper} {a : Act} {W : World} {Q : Exit → Act → World → Prop} {B : Nat} {s : List UInt8} {v : Value} {ss : List (List UInt8)} (hown : OwnStrs W B v ss) (hB : B ≤ W.heap.size)
    (hlen : ss.length < 1099511627776) (hgd : o.guard = none) (x y : Operand) (t : TypeId) (c : Nat)
    (ho : o.op = .call { callee := .builtin .append, args := #[x, y], argTypes := #[t, t] }) (ht : Tryz.prog.underlying t = some (.slice 9))
    (hs : a.eval x = v) (hx : a.eval y = .slice (some ⟨W.heap.size, 0, none⟩) 1 c)
    (h : ∀ v' w', OwnStrs w' B v' (ss ++ [s]) → W.grownBy w' v.ownBlock → (v'.ownBlock = v.ownBlock ∨ ∃ k, v'.ownBlock = some k ∧ W.heap.size ≤ k) → wpList Tryz.prog ops Q rest (a.put o.dst v') w') :
    wpList Tryz.prog ops Q (o :: rest) a (W.alloc (.cells #[.string (ba s)] 9)) := by
  obtain ⟨i0, hi, hz0, hz1, hz2⟩ := info_parts str_info
  refine wpList_append_own_at _ hgd x y t ho B 9 i0 _ 1 16 ht hi hz0 hz1 hz2 rfl (by omega) v ss.length (sv ss) hs (World.ownsRow.alloc hown _) ⟨W.heap.size, 0, none⟩ 1 c [.string (ba s)] hx rfl (cell_one_new _ _ _) ?_ (by simp only [maxLen]; omega) (by omega) (by simp; omega) ?_
  · intro u hu; simp at hu; subst hu; rfl
  · intro v' w' h1 h2 _ h4
    refine h v' w' ?_ ?_ ?_
    · show w'.ownsRow B _ 1 v' _ _
      rw [sv_snoc]; simpa using h1
    · have h5 := World.grownBy_alloc W (.cells #[.string (ba s)] 9) v.ownBlock
      exact ⟨h2.os.trans h5.os, h2.tape.trans h5.tape, h2.output.trans h5.output, Nat.le_trans h5.size h2.size, fun k hk hne => (h2.block k (by simp; omega) hne).trans (h5.block k hk hne)⟩
    · rcases h4 with h4 | h4
      · exact .inl h4
      · exact .inr ⟨_, h4, by simp⟩
end Go.Proofs.YtfinpehbpcckaaaGreatDoor
end
section
namespace Go.Proofs.YtfinpehbpcckaaaGreatDoor
open Go.RowKit
set_option linter.unusedVariables false

/-- Words in memory: those of the text l at the ranges ws. -/
def Wrds (w : World) (B : Nat) (A : Option Addr) (n : Nat) (l : List UInt8) (ws : List (Nat × Nat)) : Prop :=
  n = ws.length ∧ ∀ k (hk : k < ws.length), ∃ ad, A = some ad ∧ (ad.add (k * 3)).block < B ∧ w.cell? (ad.add (k * 3)) = some (.string (ba (wordAt l ws[k]))) ∧ w.cell? ⟨(ad.add (k * 3)).block, (ad.add (k * 3)).off + 1, none⟩ = some (.int .i64 ws[k].1) ∧ w.cell? ⟨(ad.add (k * 3)).block, (ad.add (k * 3)).off + 2, none⟩ = some (.int .i64 ws[k].2)
theorem Wrds.below {w w' : World} {B n : Nat} {A : Option Addr} {l : List UInt8} {ws : List (Nat × Nat)} (h : Wrds w B A n l ws) (hb : Below B w w') : Wrds w' B A n l ws :=
  ⟨h.1, fun k hk => by
    obtain ⟨ad, e, h1, h2, h3, h4⟩ := h.2 k hk
    exact ⟨ad, e, h1, (hb.cell h1).trans h2, (hb.cell (p := ⟨(ad.add (k * 3)).block, _, none⟩) h1).trans h3, (hb.cell (p := ⟨(ad.add (k * 3)).block, _, none⟩) h1).trans h4⟩⟩
theorem Wrds.more {w : World} {B B' n : Nat} {A : Option Addr} {l : List UInt8} {ws : List (Nat × Nat)} (h : Wrds w B A n l ws) (hB : B ≤ B') : Wrds w B' A n l ws :=
  ⟨h.1, fun k hk => by
    obtain ⟨ad, e, h1, h2, h3, h4⟩ := h.2 k hk
    exact ⟨ad, e, by omega, h2, h3, h4⟩⟩
theorem OwnWords.wrds {w : World} {B : Nat} {v : Value} {l : List UInt8} {ws : List (Nat × Nat)} (h : OwnWords w B v l ws) : ∃ A c, v = .slice A ws.length c ∧ ws.length ≤ c ∧ c ≤ maxLen ∧ Wrds w w.heap.size A ws.length l ws := by
  have h0 : w.ownsRow B 106 3 v ws.length (ws.flatMap (wordCells l)) := h
  rcases h0.2 with ⟨rfl, hn⟩ | ⟨g, cap, cur, rfl, hb, hg, q1, q2, q3⟩
  · have : ws = [] := List.eq_nil_of_length_eq_zero hn
    subst this
    exact ⟨none, 0, rfl, Nat.le_refl _, by simp, rfl, fun k hk => by simp at hk⟩
  · refine ⟨_, cap, rfl, q1, q2, rfl, fun k hk => ?_⟩
    have hc : ∀ i u, i < 3 → (wordCells l ws[k])[i]? = some u → w.cell? ⟨g, k * 3 + i, none⟩ = some u := fun i u hi hu => by
      have := h0.cells (g := g) rfl (k * 3 + i) u (by rw [word_get l ws k hk i hi]; exact hu)
      unfold Addr.add at this
      by_cases e0 : k * 3 + i = 0
      · rw [if_pos e0] at this; rw [e0]; exact this
      · rw [if_neg e0] at this; rw [Nat.zero_add] at this; exact this
    have e1 : (Addr.add ⟨g, 0, none⟩ (k * 3)) = ⟨g, k * 3, none⟩ := by
      unfold Addr.add
      split
      · rename_i e0; rw [e0]
      · rw [Nat.zero_add]
    refine ⟨⟨g, 0, none⟩, rfl, by rw [add_block]; exact heap_lt hg, ?_, ?_, ?_⟩
    · rw [e1]; exact hc 0 _ (by omega) rfl
    · rw [e1]; exact hc 1 _ (by omega) rfl
    · rw [e1]; exact hc 2 _ (by omega) rfl
def StrsBack (w : World) (ss : List (List UInt8)) (e : Ending) (w' : World) : Prop := ∃ v, e = .returned v ∧ OwnStrs w' w.heap.size v ss ∧ Below w.heap.size w w'
theorem wEnd_le {f : Int} {t : Nat} {ws : List (Nat × Nat)} : (wEnd f t ws).length ≤ ws.length + 1 := wEnd_len f t ws
theorem wRun_len : ∀ (k : Nat) (l : List UInt8) (a : Nat) (f : Int) (ws : List (Nat × Nat)), (wRun k l a f ws).length ≤ ws.length + 2 * k + 1
  | 0, l, a, f, ws => wEnd_len f a ws
  | k + 1, l, a, f, ws => by
    unfold wRun
    split
    · have := wEnd_len f a ws; omega
    · have h1 := wRun_len k (l.drop (uN l).2) (a + (uN l).2) (wStep l a f ws).1 (wStep l a f ws).2
      have h2 : (wStep l a f ws).2.length ≤ ws.length + 2 := by
        have := wEnd_len f a ws
        unfold wStep
        repeat' split
        all_goals (simp; try omega)
      omega
theorem ranges_len (s : List UInt8) : (rangesP s).length ≤ 2 * s.length + 1 := by
  have := wRun_len s.length s 0 (-1) []
  unfold rangesP
  simpa using this
def ListRel (w : World) (l : List UInt8) (k : Nat) (v : Value) (wr : World) : Prop := OwnStrs wr w.heap.size v ((listP l).take k) ∧ Below w.heap.size w wr
set_option maxRecDepth 100000 in
set_option maxHeartbeats 4000000 in
theorem list_any (l : List UInt8) (w : World) (hf : fSpans w w.heap.size) (hk : kSpans w w.heap.size) (hl : l.length ≤ 100000000) : Calls Tryz.prog 28 #[.string (ba l)] w (StrsBack w (listP l)) := by
  go_enter Tryz.func28, Tryz.ntmps28
  go_wp2_with fail
  refine (words_any l w hf hk hl).mono ?_
  rintro e w1 ⟨v, rfl, hv, hb⟩
  obtain ⟨A, c, rfl, hc1, hc2, hW⟩ := hv.wrds
  have HW := Lib.hid hW
  have HB := Lib.hid hb
  have hrl := ranges_len l
  have hll : (listP l).length = (rangesP l).length := by unfold listP; rw [List.length_map]
  obtain ⟨n, hn⟩ : ∃ n, (rangesP l).length = n := ⟨_, rfl⟩
  have hsz1 : w.heap.size ≤ w1.heap.size := hb.size
  rw [hn] at hW HW hrl hc1 hll
  have HN := Lib.hid hn
  have HLL := Lib.hid hll
  have hn9 : n ≤ 200000001 := by omega
  rw [hn]
  clear hW hb hv hn hll hf hk hrl
  go_wp2
  go_loopw [3, 9] (fun v i wr => ∃ k : Nat, k ≤ n ∧ i = .int .i64 (k : Int) ∧ Hid (ListRel w1 l k v wr)) (fun _ i _ => n - (intOf i).toNat)
  case atStart => exact ⟨0, Nat.zero_le _, rfl, OwnStrs.nil_ _ _, Below.refl _ _⟩
  case round =>
    obtain ⟨k, hk, rfl, HR⟩ := hrel
    have hsz := HR.out.2.size
    by_cases hlt : k < n
    · have hk2 : (k : Int) < n := by omega
      have hkl : k < (rangesP l).length := by rw [HN.out]; exact hlt
      obtain ⟨ad, rfl, hbl, c0, c1, c2⟩ := (HW.out.below HR.out.2).2 k hkl
      obtain ⟨r, hr⟩ : ∃ r, (rangesP l)[k] = r := ⟨_, rfl⟩
      rw [hr] at c0 c1 c2
      have HP := Lib.hid (show (listP l).take (k + 1) = (listP l).take k ++ [wordAt l r] by
        rw [List.take_succ_eq_append_getElem (by rw [HLL.out]; exact hlt)]
        unfold listP
        rw [List.getElem_map, hr])
      clear hr
      obtain ⟨t, ht⟩ : ∃ t, wordAt l r = t := ⟨_, rfl⟩
      rw [ht] at c0 HP
      clear ht
      have hown := World.ownsRow.alloc HR.out.1 (.cells #[.string (ba t), .int .i64 r.1, .int .i64 r.2] 106)
      have HOWN : Hid (OwnStrs (wr.alloc (.cells #[.string (ba t), .int .i64 r.1, .int .i64 r.2] 106)) w1.heap.size _ ((listP l).take k)) := Lib.hid hown
      have hB : w1.heap.size ≤ (wr.alloc (.cells #[.string (ba t), .int .i64 r.1, .int .i64 r.2] 106)).heap.size := by simp; omega
      have HAL := Lib.hid (show ((listP l).take k).length < 1099511627776 by rw [List.length_take]; omega)
      have HBEL := Lib.hid (HR.out.2.alloc hsz (.cells #[.string (ba t), .int .i64 r.1, .int .i64 r.2] 106))
      clear hown
      go_wp2_with (at_builtin; go_must (refine wpList_pushStr (s := t) HOWN.out hB HAL.out rfl (.tmp 13) (.tmp 16) 42 1 rfl Tryz.underlying42 rfl (by show Value.slice (some ⟨wr.heap.size + 1, 0, none⟩) 1 1 = _; simp) ?_); intro v2 w2 h1 h2 h3; (have H1 := Lib.hid h1; have H2 := Lib.hid h2; clear h1 h2 h3))
      go_roundw
      case rel =>
        refine ⟨k + 1, by omega, by go_num, ?_, HBEL.out.grown H2.out hB fun g e => (HOWN.out.lt g e).1⟩
        rw [HP.out]
        exact H1.out
      case measure => simp [intOf] <;> omega
    · obtain rfl : k = n := by omega
      go_wp2
      go_ret
      refine ⟨_, rfl, ?_, HB.out.trans (HR.out.2.mono hsz1)⟩
      have := HR.out.1
      rw [List.take_of_length_le (by rw [HLL.out]; exact Nat.le_refl _)] at this
      exact this.more hsz1
end Go.Proofs.YtfinpehbpcckaaaGreatDoor
end
section
namespace Go.Proofs.YtfinpehbpcckaaaGreatDoor
open Go.RowKit
set_option linter.unusedVariables false

def mo (n : Nat) : Nat := if n = 2 then 32 else if n = 3 then 16 else 8
def rvF (u : List UInt8) : Nat → Nat
  | 0 => bt u 0 % mo u.length
  | k + 1 => rvF u k * 64 + bt u (k + 1) % 64
/-- The rune of a unit, as the reference reckons it. -/
def rv (u : List UInt8) : Nat := if u.length = 1 then bt u 0 else rvF u (u.length - 1)
theorem and_mo : ∀ b : Nat, b < 256 → bits BinOp.and IntKind.i64 (b : Int) 31 = ((b % 32 : Nat) : Int) ∧ bits BinOp.and IntKind.i64 (b : Int) 15 = ((b % 16 : Nat) : Int) ∧ bits BinOp.and IntKind.i64 (b : Int) 7 = ((b % 8 : Nat) : Int) ∧ bits BinOp.and IntKind.u8 (b : Int) 63 = ((b % 64 : Nat) : Int) := by decide +kernel
theorem rvF_lt (u : List UInt8) : ∀ k, rvF u k < 32 * 64 ^ k
  | 0 => by
    show bt u 0 % mo u.length < 32
    unfold mo
    repeat' split
    all_goals omega
  | k + 1 => by
    have := rvF_lt u k
    show rvF u k * 64 + bt u (k + 1) % 64 < _
    rw [Nat.pow_succ]
    omega
set_option maxRecDepth 100000 in
set_option maxHeartbeats 4000000 in
theorem rrune_any (u : List UInt8) (w : World) (h1 : 1 ≤ u.length) (h4 : u.length ≤ 4) : Calls Tryz.prog 163 #[.string (ba u)] w fun e w' => e = .returned (.int .i64 (rv u : Int)) ∧ w' = w := by
  obtain ⟨s, hse⟩ : ∃ s, ba u = s := ⟨_, rfl⟩
  have hsz : s.size = u.length := by rw [← hse, ba_size]
  rw [hse]
  have HS := Lib.hid hse
  obtain ⟨n, hn⟩ : ∃ n, u.length = n := ⟨_, rfl⟩
  have HN := Lib.hid hn
  rw [hn] at hsz h1 h4
  have hget : ∀ k (hk : k < s.size), (s[k]'hk).toNat = bt u k := fun k hk => by
    subst hse
    have hk2 : k < u.length := by rw [← ba_size]; exact hk
    unfold bt
    rw [ba_get]
    simp [hk2]
  have HG := Lib.hid hget
  clear hget hn hse
  have hp : 0 < s.size := by omega
  have hu1 : (s[0].toNat : Int) ≤ 255 := by have := s[0].toNat_lt; omega
  have hu0 : (0 : Int) ≤ (s[0].toNat : Int) := by omega
  by_cases hone : n = 1
  · subst hone
    have hz : (s.size : Int) = 1 := by omega
    go_enter Tryz.func163, Tryz.ntmps163
    go_wp2
    go_ret
    refine ⟨?_, rfl⟩
    unfold rv
    rw [if_pos HN.out, ← HG.out 0 hp]
    rfl
  · rcases (by omega : n = 2 ∨ n = 3 ∨ n = 4) with hn | hn | hn
    all_goals
      subst hn
      first
        | (have hz : (s.size : Int) = 2 := by omega)
        | (have hz : (s.size : Int) = 3 := by omega)
        | (have hz : (s.size : Int) = 4 := by omega)
      go_enter Tryz.func163, Tryz.ntmps163
      go_wp2
      have hb0 := HG.out 0 hp
      generalize s[0].toNat = b0 at *
      have HB0 := Lib.hid hb0
      have HSZ := Lib.hid hsz
      clear hz hsz hb0 hu0 hu1 h1 h4 hone hp
      go_loopw [3, 4] (fun r i wr => ∃ k : Nat, 1 ≤ k ∧ k ≤ s.size ∧ i = .int .i64 (k : Int) ∧ r = .int .i64 (rvF u (k - 1) : Int) ∧ wr = w) (fun _ i _ => s.size - (intOf i).toNat)
      case atStart =>
        refine ⟨1, Nat.le_refl _, by rw [HSZ.out]; omega, rfl, ?_, rfl⟩
        rw [HB0.out]
        have h5 := and_mo (bt u 0) (bt_lt u 0)
        first | rw [h5.1] | rw [h5.2.1] | rw [h5.2.2.1]
        show _ = Value.int .i64 ((bt u 0 % mo u.length : Nat) : Int)
        rw [HN.out]
        rfl
      case round =>
        obtain ⟨k, hk1, hk, rfl, rfl, rfl⟩ := hrel
        by_cases hlt : k < s.size
        · have hk2 : (k : Int) < (s.size : Int) := by omega
          have hv1 : (s[k].toNat : Int) ≤ 255 := by have := s[k].toNat_lt; omega
          have hv0 : (0 : Int) ≤ (s[k].toNat : Int) := by omega
          have hb : (rvF u (k - 1) : Int) < 8388608 := by
            have h5 := rvF_lt u (k - 1)
            have h6 : 64 ^ (k - 1) ≤ 64 ^ 3 := Nat.pow_le_pow_right (by omega) (by have := HSZ.out; omega)
            have h7 : (64 : Nat) ^ 3 = 262144 := by decide
            omega
          obtain ⟨x, hx⟩ : ∃ x, rvF u (k - 1) = x := ⟨_, rfl⟩
          rw [hx] at hb
          rw [hx]
          have HX := Lib.hid hx
          clear hx
          have hm1 : (0 : Int) ≤ (x : Int) * 64 := by omega
          have hm2 : (x : Int) * 64 < 536870912 := by omega
          have hk9 : (k : Int) < 4 := by have := HSZ.out; omega
          go_wp2
          go_roundw
          case rel =>
            refine ⟨k + 1, by omega, by omega, by go_num, ?_, trivial⟩
            obtain ⟨j, rfl⟩ : ∃ j, k = j + 1 := ⟨k - 1, by omega⟩
            rw [HG.out (j + 1) hlt]
            show _ = Value.int .i64 ((rvF u j * 64 + bt u (j + 1) % 64 : Nat) : Int)
            have h9 : rvF u j = x := HX.out
            rw [h9]
            go_num
          case measure => simp [intOf] <;> omega
        · obtain rfl : k = s.size := by omega
          have HR := Lib.hid (show rvF u (s.size - 1) = rv u by
            unfold rv
            rw [if_neg (by have := HN.out; omega), HSZ.out, HN.out])
          obtain ⟨x, hx⟩ : ∃ x, rvF u (s.size - 1) = x := ⟨_, rfl⟩
          rw [hx]
          rw [hx] at HR
          clear hx
          go_wp2
          go_ret
          exact ⟨by rw [HR.out]; rfl, rfl⟩
end Go.Proofs.YtfinpehbpcckaaaGreatDoor
end
