/- Layer 14: bodies: its state. Law 15: the contracts of Lines (the reference) and marked. -/
import Derived.Test.YthidbmeaccpjdaaGreatDoorM32
import Derived.Test.YthidbmeaccpjdaaGreatDoorM29
import Derived.Test.YthidbmeaccpjdaaGreatDoorM06
import Derived.Test.YthidbmeaccpjdaaGreatDoorM02
section
namespace Go.Proofs.YthidbmeaccpjdaaGreatDoor
open Go.RowKit
set_option linter.unusedVariables false
open Go.Shelf
attribute [local go_sem] Oper.semAt_some
def pairI (x : Nat × Nat) : Int × Int := ((x.1 : Int), (x.2 : Int))
def opnI : Option Nat → Int
 | none => -1
 | some x => (x : Int)
theorem OwnPrs.isCells {W : World} {B : Nat} {v : Value} {ts : List (Int × Int)} (h : OwnPrs W B v ts) {b : Nat} (e : v.ownBlock = some b) : B ≤ b ∧ ∃ o, W.heap[b]? = some o ∧ o.isCells = true := by
 rcases h.row.2 with ⟨rfl, _⟩ | ⟨g, cap, cur, rfl, hb, hg, _⟩
 ·cases e
 ·cases e
  exact ⟨hb, _, hg, rfl⟩
theorem OwnPrs.set {W : World} {B k : Nat} {v u : Value} {ts : List (Int × Int)} (h : OwnPrs W B v ts) (hk : k < B) : OwnPrs (W.setCell ⟨k, 0, none⟩ u) B v ts :=
 h.block fun b e => Go.RowKit.Below.heap_setCell _ _ _ _ (fun e2 => by have := (h.isCells e).1; dsimp only at e2; omega)
structure BdSt (N : Nat) (s b : List UInt8) (out : List (Nat × Nat)) (o : Option Nat) (W : World) : Prop where
 cs : W.heap[N]? = some (.cells #[.string (ba s)] 9 (0, 0))
 cb : W.heap[N + 1]? = some (.cells #[.string (ba b)] 9 (0, 0))
 cr : W.heap[N + 2]? = some (.cells #[.slice none 0 0] 51 (0, 0))
 co : ∃ v, W.heap[N + 3]? = some (.cells #[v] 51 (0, 0)) ∧ OwnPrs W (N + 7) v (out.map pairI)
 cn : W.heap[N + 4]? = some (.cells #[.int .i64 (opnI o)] 3 (0, 0))
section
variable {N : Nat} {s b : List UInt8} {out : List (Nat × Nat)} {o : Option Nat} {W W' : World}
theorem BdSt.keep (h : BdSt N s b out o W) (hk : ∀ k o, W.heap[k]? = some o → o.isCells = true → k ≠ N + 6 → W'.heap[k]? = W.heap[k]?) : BdSt N s b out o W' := by
 obtain ⟨c0, c1, c2, ⟨v, c3, c5⟩, c4⟩ := h
 refine ⟨(hk _ _ c0 rfl (by omega)).trans c0, (hk _ _ c1 rfl (by omega)).trans c1, (hk _ _ c2 rfl (by omega)).trans c2, ⟨v, (hk _ _ c3 rfl (by omega)).trans c3, c5.block fun b e => ?_⟩, (hk _ _ c4 rfl (by omega)).trans c4⟩
 obtain ⟨h1, o, h2, h3⟩ := c5.isCells e
 exact hk _ _ h2 h3 (by omega)
theorem BdSt.below (h : BdSt N s b out o W) (hb : Below W.heap.size W W') : BdSt N s b out o W' := h.keep fun k _ hk _ _ => hb.block k (heap_lt hk)
theorem BdSt.own {row : Option Nat} (h : BdSt N s b out o W) (hg : W.grownBy W' row) (hr : ∀ r, row = some r → ∃ o : Obj, W.heap[r]? = some o ∧ o.isCells = false) : BdSt N s b out o W' :=
 h.keep fun k _ hk hc _ => grownBy_keeps_cells hg hr hk hc
theorem BdSt.sets (h : BdSt N s b out o W) (hs : setsC (N + 6) W W') : BdSt N s b out o W' := by
 obtain ⟨v, rfl⟩ := hs
 exact h.keep fun k _ _ _ hne => Go.RowKit.Below.heap_setCell _ _ _ _ hne
theorem BdSt.opn (h : BdSt N s b out o W) (t : Nat) : BdSt N s b out (some t) (W.setCell ⟨N + 4, 0, none⟩ (.int .i64 (t : Int))) := by
 obtain ⟨c0, c1, c2, ⟨v, c3, c5⟩, c4⟩ := h
 have hh : ∀ k, k ≠ N + 4 → (W.setCell ⟨N + 4, 0, none⟩ (.int .i64 (t : Int))).heap[k]? = W.heap[k]? := fun k hk => Go.RowKit.Below.heap_setCell _ _ _ _ hk
 exact ⟨(hh _ (by omega)).trans c0, (hh _ (by omega)).trans c1, (hh _ (by omega)).trans c2, ⟨v, (hh _ (by omega)).trans c3, c5.set (by omega)⟩, Lib.heap_setCell_same (i := 0) c4 _⟩
end
structure RdB (w : World) (s b : List UInt8) (W0 : World) (out : List (Nat × Nat)) (o : Option Nat) (W : World) : Prop where
 st : BdSt w.heap.size s b out o W
 ko : KeepsOthers W0 W
 kp : keeps2 (w.heap.size + 6) (w.heap.size + 5) W0 W
 bel : Below w.heap.size w W
section
variable {w W0 W W' : World} {s b : List UInt8} {out : List (Nat × Nat)} {o : Option Nat}
theorem RdB.size (h : RdB w s b W0 out o W) : w.heap.size + 4 < W.heap.size := heap_lt h.st.cn
theorem KeepsOthers.ofBelow (hb : Below W.heap.size W W') : KeepsOthers W W' := ⟨hb.size, fun k o hk _ => (hb.block k (heap_lt hk)).trans hk⟩
theorem RdB.below (h : RdB w s b W0 out o W) (h7 : w.heap.size + 6 < W.heap.size) (hb : Below W.heap.size W W') : RdB w s b W0 out o W' :=
 ⟨h.st.below hb, h.ko.trans (KeepsOthers.ofBelow hb), ⟨(hb.block _ h7).trans h.kp.1, (hb.block _ (by omega)).trans h.kp.2⟩, h.bel.trans (hb.mono (by have := h.size; omega))⟩
theorem RdB.opn (h : RdB w s b W0 out o W) (t : Nat) : RdB w s b W0 out (some t) (W.setCell ⟨w.heap.size + 4, 0, none⟩ (.int .i64 (t : Int))) :=
 ⟨h.st.opn t, h.ko.trans (KeepsOthers.setCell _ _ _), ⟨(Go.RowKit.Below.heap_setCell _ _ _ _ (by simp)).trans h.kp.1, (Go.RowKit.Below.heap_setCell _ _ _ _ (by simp)).trans h.kp.2⟩, h.bel.setCell (p := ⟨w.heap.size + 4, 0, none⟩) (by simp) _⟩
theorem RdB.push (h : RdB w s b W0 out o W) (h7 : w.heap.size + 6 < W.heap.size) {v v' : Value} {x : Nat × Nat} (hv : W.heap[w.heap.size + 3]? = some (.cells #[v] 51 (0, 0))) (hw : OwnPrs W (w.heap.size + 7) v (out.map pairI)) (hp : OwnPrs W' (w.heap.size + 7) v' (out.map pairI ++ [pairI x])) (hg : W.grownBy W' v.ownBlock) :
  RdB w s b W0 (out ++ [x]) o (W'.setCell ⟨w.heap.size + 3, 0, none⟩ v') := by
 have hne : ∀ k, k < w.heap.size + 7 → W'.heap[k]? = W.heap[k]? := fun k hk => hg.block k (by omega) (fun e => by have := (hw.isCells e.symm).1; omega)
 have hh : ∀ k, k ≠ w.heap.size + 3 → (W'.setCell ⟨w.heap.size + 3, 0, none⟩ v').heap[k]? = W'.heap[k]? := fun k hk => Go.RowKit.Below.heap_setCell _ _ _ _ hk
 obtain ⟨c0, c1, c2, -, c4⟩ := h.st
 refine ⟨⟨(hh _ (by omega)).trans ((hne _ (by omega)).trans c0), (hh _ (by omega)).trans ((hne _ (by omega)).trans c1), (hh _ (by omega)).trans ((hne _ (by omega)).trans c2), ⟨v', Lib.heap_setCell_same (i := 0) ((hne _ (by omega)).trans hv) _, by rw [List.map_append]; exact hp.set (by omega)⟩, (hh _ (by omega)).trans ((hne _ (by omega)).trans c4)⟩, ?_, ⟨(hh _ (by omega)).trans ((hne _ (by omega)).trans h.kp.1), (hh _ (by omega)).trans ((hne _ (by omega)).trans h.kp.2)⟩, ?_⟩
 ·refine h.ko.trans (KeepsOthers.trans ⟨hg.size, fun k o hk ho => ?_⟩ (KeepsOthers.setCell _ _ _))
  refine (hg.block k (heap_lt hk) (fun e => ?_)).trans hk
  obtain ⟨_, o2, h2, h3⟩ := hw.isCells e.symm
  rw [hk] at h2
  cases h2
  rw [ho] at h3
  cases h3
 ·exact (h.bel.grown hg (by have := h.size; omega) (fun k e => by have := (hw.isCells e).1; omega)).setCell (p := ⟨w.heap.size + 3, 0, none⟩) (by simp) _
end
theorem aheadP_no {s : List UInt8} {o a : Nat} (h : ¬ o < a) : aheadP s o a = a := by unfold aheadP; rw [if_neg (fun e => h e.1)]
theorem aheadP_no2 {s : List UInt8} {o a : Nat} (h : s[a - 1]? ≠ some 10) : aheadP s o a = a := by unfold aheadP; rw [if_neg (fun e => h e.2)]
theorem aheadP_one {s : List UInt8} {o a : Nat} (h : o < a) (h1 : s[a - 1]? = some 10) (h2 : ¬ o < a - 1) : aheadP s o a = a - 1 := by unfold aheadP; rw [if_pos ⟨h, h1⟩, if_neg (fun e => h2 e.1)]
theorem aheadP_one2 {s : List UInt8} {o a : Nat} (h : o < a) (h1 : s[a - 1]? = some 10) (h2 : s[a - 1 - 1]? ≠ some 13) : aheadP s o a = a - 1 := by unfold aheadP; rw [if_pos ⟨h, h1⟩, if_neg (fun e => h2 e.2)]
theorem aheadP_two {s : List UInt8} {o a : Nat} (h : o < a) (h1 : s[a - 1]? = some 10) (h2 : o < a - 1) (h3 : s[a - 1 - 1]? = some 13) : aheadP s o a = a - 1 - 1 := by unfold aheadP; rw [if_pos ⟨h, h1⟩, if_pos ⟨h2, h3⟩]
end Go.Proofs.YthidbmeaccpjdaaGreatDoor
end
namespace Go.Proofs.YthidbmeaccpjdaaGreatDoor
open Go.RowKit
set_option linter.unusedVariables false
set_option maxHeartbeats 4000000
theorem lf_skip {r : List UInt8} : lfP (13 :: 10 :: r) = lfP (10 :: r) := by
 show (if (13 : UInt8) = 13 ∧ (10 : UInt8) = 10 then 10 :: lfP r else _) = _
 rw [if_pos ⟨rfl, rfl⟩]
 cases r with
 | nil => rfl
 | cons d t =>
  show _ = (if (10 : UInt8) = 13 ∧ d = 10 then _ else 10 :: lfP (d :: t))
  rw [if_neg (by simp)]
theorem lf_keep {c : UInt8} {r : List UInt8} (h : ¬ (c = 13 ∧ r.head? = some 10)) : lfP (c :: r) = c :: lfP r := by
 cases r with
 | nil => rfl
 | cons d t =>
  show (if c = 13 ∧ d = 10 then _ else c :: lfP (d :: t)) = _
  rw [if_neg (by simpa using h)]
def LnRel (w : World) (l : List UInt8) (k : Nat) (v : Value) (wr : World) : Prop := ∃ acc, OwnBytes wr w.heap.size v acc ∧ acc ++ lfP (l.drop k) = lfP l ∧ acc.length ≤ k ∧ Below w.heap.size w wr
set_option maxRecDepth 100000 in
theorem lines15_any (l : List UInt8) (w : World) (hl : l.length ≤ 1000000000) :
  Calls Tryz.prog 25 #[.string (ba l)] w (StrB w (lfP l)) := by
 obtain ⟨n, hn⟩ : ∃ n, l.length = n := ⟨_, rfl⟩
 have HL := Lib.hid hn
 obtain ⟨s, hs⟩ : ∃ s, ba l = s := ⟨_, rfl⟩
 have HS := Lib.hid hs
 have HZ := Lib.hid (show s.size = n by rw [← hs, ba_size, hn])
 have hsz : (s.size : Int) = n := by rw [HZ.out]
 rw [hs]
 rw [hn] at hl
 clear hs hn
 go_enter Tryz.func25, Tryz.ntmps25
 go_wp2
 go_loopw [3, 4] (fun v i wr => ∃ (k : Nat), k ≤ n ∧ i = .int .i64 (k : Int) ∧ Hid (LnRel w l k v wr)) (fun _ i _ => n - (intOf i).toNat)
 case atStart => exact ⟨0, Nat.zero_le _, rfl, Lib.hid ⟨[], OwnBytes.nil_ _ _, rfl, Nat.le_refl _, Below.refl _ _⟩⟩
 case round =>
  obtain ⟨k, hk, rfl, HR⟩ := hrel
  obtain ⟨acc, hown, hacc, hal, hbel⟩ := HR.out
  have hB := hbel.size
  by_cases hlt : k < n
  ·have hk2 : (k : Int) < (n : Int) := by omega
   have hk0 : (0 : Int) ≤ (k : Int) := by omega
   have hks : k < s.size := by rw [HZ.out]; omega
   have hkl : k < l.length := by rw [HL.out]; omega
   have hget : s[k] = l[k] := by
    have h := HS.out
    subst h
    rfl
   have HKL := Lib.hid hkl
   obtain ⟨c, hc⟩ : ∃ c, l[k] = c := ⟨_, rfl⟩
   replace hget := hget.trans hc
   have hdr : l.drop k = c :: l.drop (k + 1) := by rw [← hc]; exact List.drop_eq_getElem_cons hkl
   obtain ⟨x, hx⟩ : ∃ x : Int, (c.toNat : Int) = x := ⟨_, rfl⟩
   have hgi : ((s[k]).toNat : Int) = x := by rw [hget]; exact hx
   have HX := Lib.hid hx
   have hx0 : 0 ≤ x := by omega
   have hx1 : x ≤ 255 := by have := c.toNat_lt; omega
   have HOWN := Lib.hid hown
   have HBEL := Lib.hid hbel
   have HACC := Lib.hid hacc
   have HDR := Lib.hid hdr
   have HAL := Lib.hid (show acc.length < 1099511627776 by omega)
   have HAK := Lib.hid hal
   have HYB := Lib.hid (show x = (c.toNat : Int) from hx.symm)
   have HKEEP := Lib.hid (show ¬ (c = 13 ∧ (l.drop (k + 1)).head? = some 10) → ∀ v2 w2, OwnBytes w2 w.heap.size v2 (acc ++ [c]) → Below w.heap.size w w2 → LnRel w l (k + 1) v2 w2 from fun h v2 w2 h1 h2 => by
    refine ⟨acc ++ [c], h1, ?_, by rw [List.length_append]; simp; omega, h2⟩
    rw [← hacc, hdr, lf_keep h]
    simp)
   clear HR hown hacc hal hbel hc hx hget hdr
   by_cases e1 : x = 13
   ·have g1 : (x == 13) = true := by simpa using e1
    have HC13 := Lib.hid (show c = 13 from u8_int_eq'.1 (by rw [HX.out]; exact e1))
    by_cases hk1 : k + 1 < n
    ·have hk1i : (k : Int) + 1 < (n : Int) := by omega
     have hk1s : k + 1 < s.size := by rw [HZ.out]; exact hk1
     have hk1l : k + 1 < l.length := by rw [HL.out]; exact hk1
     have hget1 : s[k + 1] = l[k + 1] := by
      have h := HS.out
      subst h
      rfl
     obtain ⟨d, hd⟩ : ∃ c, l[k + 1] = c := ⟨_, rfl⟩
     replace hget1 := hget1.trans hd
     have hdr1 : l.drop (k + 1) = d :: l.drop (k + 1 + 1) := by rw [← hd]; exact List.drop_eq_getElem_cons hk1l
     obtain ⟨y, hy⟩ : ∃ x : Int, (d.toNat : Int) = x := ⟨_, rfl⟩
     have hgi1 : ((s[k + 1]).toNat : Int) = y := by rw [hget1]; exact hy
     have hk1t : ((k : Int) + 1).toNat = k + 1 := by omega
     by_cases e2 : y = 10
     ·have g2 : (y == 10) = true := by simpa using e2
      have hd10 : d = 10 := u8_int_eq'.1 (by rw [hy]; exact e2)
      have HN := Lib.hid (show LnRel w l (k + 1) _ wr from ⟨acc, HOWN.out, by rw [← HACC.out, HDR.out, HC13.out, hdr1, hd10, lf_skip], by have := HAK.out; omega, HBEL.out⟩)
      clear e1 e2 hd hy hget1 hdr1 hd10 hk1l
      go_wp2
      go_roundw
      case rel => exact ⟨k + 1, by omega, by go_num, HN⟩
      case measure => simp [intOf] <;> omega
     ·have g2 : (y == 10) = false := by simpa using e2
      have HN := Lib.hid (HKEEP.out (by rw [hdr1]; rintro ⟨_, h⟩; injection h with h; exact e2 (by rw [← hy, h]; rfl)))
      clear e1 e2 hd hy hget1 hdr1 hk1l HKEEP
      go_wp2_with (at_builtin; go_must (refine wpList_pushByte (y := c) HOWN.out hB HYB.out HAL.out rfl (.tmp 29) (.tmp 33) 1 rfl rfl rfl ?_); intro v2 w2 h1 h2 h3; (have H1 := Lib.hid h1; have H2 := Lib.hid h2; clear h1 h2 h3))
      go_roundw
      case rel => exact ⟨k + 1, by omega, by go_num, Lib.hid (HN.out _ _ H1.out (HBEL.out.grown H2.out hB fun g e => (World.ownsRow.lt HOWN.out g e).1))⟩
      case measure => simp [intOf] <;> omega
    ·have hk1i : ¬ (k : Int) + 1 < (n : Int) := by omega
     have HN := Lib.hid (HKEEP.out (by rw [List.drop_eq_nil_of_le (by rw [HL.out]; omega)]; rintro ⟨_, h⟩; cases h))
     clear e1 hk1 HKEEP
     go_wp2_with (at_builtin; go_must (refine wpList_pushByte (y := c) HOWN.out hB HYB.out HAL.out rfl (.tmp 29) (.tmp 33) 1 rfl rfl rfl ?_); intro v2 w2 h1 h2 h3; (have H1 := Lib.hid h1; have H2 := Lib.hid h2; clear h1 h2 h3))
     go_roundw
     case rel => exact ⟨k + 1, by omega, by go_num, Lib.hid (HN.out _ _ H1.out (HBEL.out.grown H2.out hB fun g e => (World.ownsRow.lt HOWN.out g e).1))⟩
     case measure => simp [intOf] <;> omega
   ·have g1 : (x == 13) = false := by simpa using e1
    have HN := Lib.hid (HKEEP.out (by rintro ⟨h, _⟩; exact e1 (by rw [← HX.out, h]; rfl)))
    clear e1 HKEEP
    go_wp2_with (at_builtin; go_must (refine wpList_pushByte (y := c) HOWN.out hB HYB.out HAL.out rfl (.tmp 29) (.tmp 33) 1 rfl rfl rfl ?_); intro v2 w2 h1 h2 h3; (have H1 := Lib.hid h1; have H2 := Lib.hid h2; clear h1 h2 h3))
    go_roundw
    case rel => exact ⟨k + 1, by omega, by go_num, Lib.hid (HN.out _ _ H1.out (HBEL.out.grown H2.out hB fun g e => (World.ownsRow.lt HOWN.out g e).1))⟩
    case measure => simp [intOf] <;> omega
  ·obtain rfl : k = n := by omega
   have hown2 : OwnBytes wr w.heap.size u3 (lfP l) := by
    rw [List.drop_of_length_le (by rw [HL.out]; exact Nat.le_refl _), show lfP [] = [] from rfl, List.append_nil] at hacc
    rw [← hacc]
    exact hown
   have hconv := hown2.str
   have HBEL := Lib.hid hbel
   clear hown2 hown hacc hal hbel HR
   go_wp2
   go_ret
   exact ⟨rfl, HBEL.out⟩
end Go.Proofs.YthidbmeaccpjdaaGreatDoor
