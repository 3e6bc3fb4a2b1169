/- Layer 32: the closure of Words: a word ends. Layer 32, plain: the length of a unit as the library tells it; what one round of Words leaves. Layer 32: the contract of Words. Layer 32: the contract of List. Layer 37: the contracts of text and plain; strings.Join of words by blanks. Layer 37: Words at queries that have at most one word. Layer 37: worded and leaf at the queries that the laws' small() writes. -/
import Derived.Deep.RegionLaw
import Derived.Lib.Small
import Derived.Deep.RegionHeld3
import Derived.Lib.QuietBelow
import Derived.Test.YtomcdhmcjndioaaGreatDoorM08
import Derived.Test.YtomcdhmcjndioaaGreatDoorM01
import Derived.Test.YtomcdhmcjndioaaGreatDoorM02
import Derived.Test.YtomcdhmcjndioaaGreatDoorM07
import Derived.Test.YtomcdhmcjndioaaGreatDoorM06
section
namespace Go.Proofs.YtomcdhmcjndioaaGreatDoor
open Go.RowKit
set_option linter.unusedVariables false

theorem cell_box {w : World} {b : Nat} {v : Value} {T : TypeId} (h : w.heap[b]? = some (.cells #[v] T (0, 0))) : w.cell? ⟨b, 0, none⟩ = some v := by simp [World.cell?, h]
theorem frozen_box {w : World} {b : Nat} {v : Value} {T : TypeId} (h : w.heap[b]? = some (.cells #[v] T (0, 0))) : w.frozen? ⟨b, 0, none⟩ = false := by simp [World.frozen?, h]
/-- What Words keeps while it runs: the text at block g, the words behind it, and where the word under way begins. -/
def WState (w : World) (g : Nat) (l : List UInt8) (f : Int) (ws : List (Nat × Nat)) : Prop :=
  w.heap[g]? = some (.cells #[.string (ba l)] 9 (0, 0)) ∧ w.heap[g + 2]? = some (.cells #[.int .i64 f] 3 (0, 0)) ∧ ∃ v, w.heap[g + 1]? = some (.cells #[v] 66 (0, 0)) ∧ OwnWords w (g + 4) v l ws
def EndPost (w : World) (g : Nat) (l : List UInt8) (ws : List (Nat × Nat)) (r : Ending) (w' : World) : Prop := r = .returned (.tuple #[]) ∧ WState w' g l (-1) ws ∧ Off (fun k => g ≤ k) w w' ∧ w'.heap[g + 3]? = w.heap[g + 3]?
theorem WState.put {w : World} {g : Nat} {l : List UInt8} {f : Int} {ws : List (Nat × Nat)} (h : WState w g l f ws) (f' : Int) : WState (w.setCell ⟨g + 2, 0, none⟩ (.int .i64 f')) g l f' ws ∧ Off (fun k => g ≤ k) w (w.setCell ⟨g + 2, 0, none⟩ (.int .i64 f')) ∧ (w.setCell ⟨g + 2, 0, none⟩ (.int .i64 f')).heap[g + 3]? = w.heap[g + 3]? := by
  obtain ⟨h1, h2, v, h3, h4⟩ := h
  have hO : Off (· = g + 2) w (w.setCell ⟨g + 2, 0, none⟩ (.int .i64 f')) := (Off.refl (· = g + 2) w).setCell (p := ⟨g + 2, 0, none⟩) (.inl rfl) _
  have l1 := heap_lt h1
  have l3 := heap_lt h3
  refine ⟨⟨(hO.block g l1 (by omega)).trans h1, heap_setCell_same w (g + 2) 0 _ 3 _ h2, v, (hO.block (g + 1) l3 (by omega)).trans h3, ownsRow_block h4 fun b e => hO.block b (h4.lt b e).2 (by have := (h4.lt b e).1; omega)⟩, ?_, heap_setCell_other w ⟨g + 2, 0, none⟩ (g + 3) _ (by show g + 3 ≠ g + 2; omega)⟩
  exact (Off.refl (fun k => g ≤ k) w).setCell (p := ⟨g + 2, 0, none⟩) (.inl (by show g ≤ g + 2; omega)) _
theorem add_word {w w3 w8 : World} {g : Nat} (hs3 : g + 3 < w.heap.size) {l : List UInt8} {f : Int} {v v' : Value} {ws : List (Nat × Nat)} {r : Nat × Nat} (hb : Below w.heap.size w w3) (hbox : w.heap[g + 1]? = some (.cells #[v] 66 (0, 0))) (h1 : w.heap[g]? = some (.cells #[.string (ba l)] 9 (0, 0))) (h2 : w.heap[g + 2]? = some (.cells #[.int .i64 f] 3 (0, 0)))
    (hown : OwnWords w (g + 4) v l ws) (h8 : OwnWords w8 (g + 4) v' l (ws ++ [r])) (hg : w3.grownBy w8 v.ownBlock) :
    w8.heap[g + 1]? = some (.cells #[v] 66 (0, 0)) ∧ WState (w8.setCell ⟨g + 1, 0, none⟩ v') g l f (ws ++ [r]) ∧ Off (fun k => g ≤ k) w (w8.setCell ⟨g + 1, 0, none⟩ v') ∧ (w8.setCell ⟨g + 1, 0, none⟩ v').heap[g + 3]? = w.heap[g + 3]? := by
  have old : ∀ k, k ≤ g + 3 → k < w.heap.size → w8.heap[k]? = w.heap[k]? := fun k hk hs => (hg.block k (by have := hb.size; omega) fun e => by have := (hown.lt k e.symm).1; omega).trans (hb.block k hs)
  have k1 := (old g (by omega) (heap_lt h1)).trans h1
  have k2 := (old (g + 2) (by omega) (heap_lt h2)).trans h2
  have k3 := (old (g + 1) (by omega) (heap_lt hbox)).trans hbox
  have hO : Off (· = g + 1) w8 (w8.setCell ⟨g + 1, 0, none⟩ v') := (Off.refl (· = g + 1) w8).setCell (p := ⟨g + 1, 0, none⟩) (.inl rfl) _
  refine ⟨k3, ⟨(hO.block g (heap_lt k1) (by omega)).trans k1, (hO.block (g + 2) (heap_lt k2) (by omega)).trans k2, v', heap_setCell_same w8 (g + 1) 0 _ _ _ k3, ownsRow_block h8 fun b e => hO.block b (h8.lt b e).2 (by have := (h8.lt b e).1; omega)⟩, ?_, (heap_setCell_other w8 ⟨g + 1, 0, none⟩ (g + 3) _ (by show g + 3 ≠ g + 1; omega)).trans (old (g + 3) (Nat.le_refl _) hs3)⟩
  exact (((Off.refl (fun k => g ≤ k) w).trans (Off.of_below hb fun k hk hle => absurd hle (by have := heap_lt h1; omega))).grown hg fun k e => .inl (by have := (hown.lt k e).1; omega)).setCell (p := ⟨g + 1, 0, none⟩) (.inl (by show g ≤ g + 1; omega)) _
set_option maxRecDepth 100000 in
set_option maxHeartbeats 4000000 in
theorem end_any (g : Nat) (l : List UInt8) (f : Int) (ws : List (Nat × Nat)) (t : Nat) (w : World) (hl : l.length ≤ 1000000000) (ht : t ≤ l.length) (hf : f = -1 ∨ 0 ≤ f ∧ f ≤ t) (hst : WState w g l f ws) (hlen : ws.length ≤ 1000000000) (hs : fSpans w g) (hs3 : g + 3 < w.heap.size) :
    Calls Tryz.prog 53 #[.int .i64 (t : Int), .pointer (some ⟨g + 2, 0, none⟩), .pointer (some ⟨g + 1, 0, none⟩), .pointer (some ⟨g, 0, none⟩)] w (EndPost w g l (wEnd f t ws)) := by
  rcases hf with rfl | ⟨hf0, hft⟩
  · have hp := hst.put (-1)
    have HP := Lib.hid hp
    obtain ⟨h1, h2, v, h3, h4⟩ := hst
    have c2 : w.cell? ⟨g + 2, 0, none⟩ = some (.int .i64 (-1)) := cell_box h2
    have f2 : w.frozen? ⟨g + 2, 0, none⟩ = false := frozen_box h2
    clear hp h1 h2 h3 h4
    go_enter Tryz.func53, Tryz.ntmps53
    go_wp2
    go_end0
    exact ⟨rfl, HP.out.1, HP.out.2.1, HP.out.2.2⟩
  · have HST := Lib.hid hst
    obtain ⟨h1, h2, v, h3, h4⟩ := hst
    obtain ⟨n, rfl⟩ : ∃ n : Nat, f = n := ⟨f.toNat, by omega⟩
    obtain ⟨A, c, rfl, -, -⟩ := h4.shape
    have l1 := heap_lt h1
    have l2 := heap_lt h2
    have l3 := heap_lt h3
    have c0 : w.cell? ⟨g, 0, none⟩ = some (.string (ba l)) := cell_box h1
    have c1 : w.cell? ⟨g + 1, 0, none⟩ = some (.slice A ws.length c) := cell_box h3
    have c2 : w.cell? ⟨g + 2, 0, none⟩ = some (.int .i64 (n : Int)) := cell_box h2
    have hnt : (n : Int) ≤ (t : Int) := hft
    have htl : (t : Int) ≤ ((ba l).size : Int) := by rw [ba_size]; omega
    have HF := Lib.hid (fold_any ((l.take t).drop n) w.drew (show fSpans w.drew w.drew.heap.size from (hs.more (show g ≤ w.heap.size by omega))) (by rw [List.length_drop, List.length_take]; omega))
    have HCUT := Lib.hid (ba_cut l n t)
    have HL := Lib.hid hlen
    have HOWN := Lib.hid h4
    have HBX := Lib.hid h3
    have HTX := Lib.hid h1
    have HFX := Lib.hid h2
    clear h1 h2 h3 h4 hlen
    clear hs hft
    go_enter Tryz.func53, Tryz.ntmps53
    go_wp2
    go_region_law
      (first
        | (go_simp; go_at_call 54; rw [HCUT.out]; refine HF.out.mono ?_; rintro e w1 ⟨rfl, hbel⟩; (
          have HB1 := Lib.hid ((Below.refl _ _).drew.trans hbel)
          have HO1 := Lib.hid (HOWN.out.below HB1.out)
          have hs1 : g + 4 ≤ w1.heap.size := Nat.le_trans hs3 hbel.size
          have e0 : w1.cell? ⟨g, 0, none⟩ = some (.string (ba l)) := (HB1.out.cell (p := ⟨g, 0, none⟩) l1).trans c0
          have e1 : w1.cell? ⟨g + 1, 0, none⟩ = some (.slice A ws.length c) := (HB1.out.cell (p := ⟨g + 1, 0, none⟩) l3).trans c1
          have e2 : w1.cell? ⟨g + 2, 0, none⟩ = some (.int .i64 (n : Int)) := (HB1.out.cell (p := ⟨g + 2, 0, none⟩) l2).trans c2
          have e6 : (w1.alloc (.cells #[.string (ba (foldP ((l.take t).drop n))), .int .i64 (n : Int), .int .i64 (t : Int)] 69)).cell? ⟨g + 1, 0, none⟩ = some (.slice A ws.length c) := (World.cell?_of_block (a := ⟨g + 1, 0, none⟩) (heap_alloc_old w1 _ (by show g + 1 < w1.heap.size; omega))).trans e1
          clear hbel))
        | (refine step_pushWord (r := (n, t)) HO1.out hs1 HL.out rfl (.tmp 7) (.tmp 16) 1 rfl rfl rfl ?_; intro v' w8 hown8 hg8; (
          obtain ⟨A8, c8, hv8, -, -⟩ := hown8.shape
          rw [List.length_append, List.length_singleton] at hv8
          subst hv8
          obtain ⟨k3, k4, k5, k6⟩ := add_word hs3 HB1.out HBX.out HTX.out HFX.out HOWN.out hown8 hg8
          have e3 : w8.cell? ⟨g + 1, 0, none⟩ = some (.slice A ws.length c) := cell_box k3
          have ef : w8.frozen? ⟨g + 1, 0, none⟩ = false := frozen_box k3
          obtain ⟨k7, k8, k9⟩ := k4.put (-1)
          have e4 : (w8.setCell ⟨g + 1, 0, none⟩ (.slice A8 (ws.length + 1) c8)).cell? ⟨g + 2, 0, none⟩ = some (.int .i64 (n : Int)) := cell_box k4.2.1
          have e5 : (w8.setCell ⟨g + 1, 0, none⟩ (.slice A8 (ws.length + 1) c8)).frozen? ⟨g + 2, 0, none⟩ = false := frozen_box k4.2.1
          have HE := Lib.hid (And.intro k7 (And.intro (k5.trans k8) (k9.trans k6)))
          clear k3 k4 k5 k6 k7 k8 k9 hown8 hg8))
        | fail)
    all_goals
      go_wp2
      go_end0
      have hf := HE.out
      exact ⟨rfl, by unfold wEnd; rw [if_pos (by omega)]; exact hf.1, hf.2.1, hf.2.2⟩
end Go.Proofs.YtomcdhmcjndioaaGreatDoor
end
section
namespace Go.Proofs.YtomcdhmcjndioaaGreatDoor
set_option linter.unusedVariables false

theorem runeLen_unit {l : List UInt8} (h : l ≠ []) (hr : (uN l).1 ≠ 65533) : Lib.runeLen ((uN l).1 : Int) = ((uN l).2 : Int) := by
  have h1 := uN_cases l h
  have b0 := bt_lt l 0
  have b1 := bt_lt l 1
  have b2 := bt_lt l 2
  have b3 := bt_lt l 3
  unfold Lib.runeLen
  generalize (uN l).1 = r at *
  generalize (uN l).2 = n at *
  generalize bt l 0 = x0 at *
  generalize bt l 1 = x1 at *
  generalize bt l 2 = x2 at *
  generalize bt l 3 = x3 at *
  clear h
  rcases h1 with ⟨rfl, ⟨h1, rfl⟩ | ⟨h1, rfl⟩⟩ | ⟨rfl, h⟩ | ⟨rfl, h⟩ | ⟨rfl, h⟩
  · repeat' split
    all_goals omega
  · exact absurd rfl hr
  all_goals
    repeat' split
    all_goals omega
theorem wKind_bad {l : List UInt8} (h : (uN l).1 = 65533) : wKind l = 0 := by unfold wKind; rw [if_pos h]
theorem wKind_ok {l : List UInt8} (h : (uN l).1 ≠ 65533) : wKind l = kindP (uN l).1 := by unfold wKind; rw [if_neg h]
theorem wStep_none {l : List UInt8} {a : Nat} {f : Int} {ws : List (Nat × Nat)} (h : wKind l = 0) : wStep l a f ws = (-1, wEnd f a ws) := by unfold wStep; rw [if_pos h]
theorem wStep_own {l : List UInt8} {a : Nat} {f : Int} {ws : List (Nat × Nat)} (h : wKind l = 2) : wStep l a f ws = (-1, wEnd (a : Int) (a + (uN l).2) (wEnd f a ws)) := by
  unfold wStep; rw [if_neg (by rw [h]; decide), if_pos h]
  show _ = (-1, if (0 : Int) ≤ (a : Int) then _ else _)
  rw [if_pos (by omega)]; rfl
theorem wStep_long {l : List UInt8} {a : Nat} {f : Int} {ws : List (Nat × Nat)} (h : wKind l = 1) (h1 : 0 ≤ f) (h2 : 40 < (a : Int) + (uN l).2 - f) : wStep l a f ws = ((a : Int), wEnd f a ws) := by
  unfold wStep; rw [if_neg (by rw [h]; decide), if_neg (by rw [h]; decide), if_pos ⟨h1, h2⟩]
theorem wStep_new {l : List UInt8} {a : Nat} {f : Int} {ws : List (Nat × Nat)} (h : wKind l = 1) (h1 : f < 0) : wStep l a f ws = ((a : Int), ws) := by
  unfold wStep; rw [if_neg (by rw [h]; decide), if_neg (by rw [h]; decide), if_neg (by rintro ⟨h3, _⟩; omega), if_pos h1]
theorem wStep_more {l : List UInt8} {a : Nat} {f : Int} {ws : List (Nat × Nat)} (h : wKind l = 1) (h1 : 0 ≤ f) (h2 : ¬ 40 < (a : Int) + (uN l).2 - f) : wStep l a f ws = (f, ws) := by
  unfold wStep; rw [if_neg (by rw [h]; decide), if_neg (by rw [h]; decide), if_neg (by rintro ⟨_, h3⟩; exact h2 h3), if_neg (by omega)]
theorem wEnd_len (f : Int) (t : Nat) (ws : List (Nat × Nat)) : (wEnd f t ws).length ≤ ws.length + 1 := by
  unfold wEnd; split <;> simp
end Go.Proofs.YtomcdhmcjndioaaGreatDoor
end
section
namespace Go.Proofs.YtomcdhmcjndioaaGreatDoor
open Go.RowKit
set_option linter.unusedVariables false

theorem WState.below {w w' : World} {g : Nat} {l : List UInt8} {f : Int} {ws : List (Nat × Nat)} (h : WState w g l f ws) (hb : Below w.heap.size w w') : WState w' g l f ws := by
  obtain ⟨h1, h2, v, h3, h4⟩ := h
  exact ⟨(hb.block _ (heap_lt h1)).trans h1, (hb.block _ (heap_lt h2)).trans h2, v, (hb.block _ (heap_lt h3)).trans h3, h4.below hb⟩
theorem WState.iter {w : World} {g : Nat} {l : List UInt8} {f : Int} {ws : List (Nat × Nat)} (h : WState w g l f ws) (s : ByteArray) (p : Nat) : WState (w.iterAt (g + 3) s p) g l f ws := by
  obtain ⟨h1, h2, v, h3, h4⟩ := h
  exact ⟨(Lib.iterAt_other w (g + 3) g s p (by omega)).trans h1, (Lib.iterAt_other w (g + 3) (g + 2) s p (by omega)).trans h2, v, (Lib.iterAt_other w (g + 3) (g + 1) s p (by omega)).trans h3, ownsRow_block h4 fun b e => Lib.iterAt_other w (g + 3) b s p (by have := (h4.lt b e).1; omega)⟩
theorem WState.from_ {w : World} {g : Nat} {l : List UInt8} {f : Int} {ws : List (Nat × Nat)} (h : WState w g l f ws) : w.cell? ⟨g + 1 + 1, 0, none⟩ = some (.int .i64 f) ∧ w.frozen? ⟨g + 1 + 1, 0, none⟩ = false := ⟨cell_box h.2.1, frozen_box h.2.1⟩
theorem words_new (w : World) (l : List UInt8) : WState ((((w.alloc (.cells #[.string (ba l)] 9)).alloc (.cells #[.slice none 0 0] 66)).alloc (.cells #[.int .i64 (-1)] 3)).alloc (.stringIter (ba l) 0)) w.heap.size l (-1) [] := by
  have s1 : (w.alloc (.cells #[.string (ba l)] 9)).heap.size = w.heap.size + 1 := by simp
  have s2 : ((w.alloc (.cells #[.string (ba l)] 9)).alloc (.cells #[.slice none 0 0] 66)).heap.size = w.heap.size + 2 := by simp
  have h1 := (MapKept.heap_alloc w (.cells #[.string (ba l)] 9)).1
  have h2 := (MapKept.heap_alloc (w.alloc (.cells #[.string (ba l)] 9)) (.cells #[.slice none 0 0] 66)).1
  have h3 := (MapKept.heap_alloc ((w.alloc (.cells #[.string (ba l)] 9)).alloc (.cells #[.slice none 0 0] 66)) (.cells #[.int .i64 (-1)] 3)).1
  rw [s1] at h2
  rw [s2] at h3
  refine ⟨?_, ?_, .slice none 0 0, ?_, OwnWords.nil_ _ _ _⟩
  · rw [heap_alloc_old _ _ (by simp only [World.size_alloc]; omega), heap_alloc_old _ _ (by simp only [World.size_alloc]; omega), heap_alloc_old _ _ (by simp only [World.size_alloc]; omega)]; exact h1
  · rw [heap_alloc_old _ _ (by simp only [World.size_alloc]; omega)]; exact h3
  · rw [heap_alloc_old _ _ (by simp only [World.size_alloc]; omega), heap_alloc_old _ _ (by simp only [World.size_alloc]; omega)]; exact h2
/-- What Words has at the head of its loop. -/
def WordsRel (w : World) (l : List UInt8) (pos : Nat) (wr : World) : Prop :=
  ∃ f ws, WState wr w.heap.size l f ws ∧ wr.heap[w.heap.size + 3]? = some (.stringIter (ba l) pos) ∧ Below w.heap.size w wr ∧ wFrom (l.drop pos) pos f ws = rangesP l ∧ ws.length ≤ 2 * pos ∧ (f = -1 ∨ 0 ≤ f ∧ f ≤ pos)
def WordsBack (w : World) (l : List UInt8) (e : Ending) (w' : World) : Prop := ∃ v, e = .returned v ∧ OwnWords w' w.heap.size v l (rangesP l) ∧ Below w.heap.size w w'
theorem OwnWords.more {w : World} {B B' : Nat} {v : Value} {l : List UInt8} {ws : List (Nat × Nat)} (h : OwnWords w B v l ws) (hB : B' ≤ B) : OwnWords w B' v l ws := by
  refine ⟨h.1, ?_⟩
  rcases h.2 with h | ⟨g, cap, cur, h1, h2, h3⟩
  · exact .inl h
  · exact .inr ⟨g, cap, cur, h1, by omega, h3⟩
set_option maxRecDepth 100000 in
set_option maxHeartbeats 4000000 in
theorem words_any (l : List UInt8) (w : World) (hf : fSpans w w.heap.size) (hk : kSpans w w.heap.size) (hl : l.length ≤ 100000000) : Calls Tryz.prog 36 #[.string (ba l)] w (WordsBack w l) := by
  have HSF := Lib.hid hf
  have HSK := Lib.hid hk
  have hsz : (ba l).size = l.length := ba_size l
  have HSZ := Lib.hid hsz
  rw [← hsz] at hl
  clear hsz hf hk
  go_enter Tryz.func36, Tryz.ntmps36
  go_wp2
  go_loopw [] (fun wr => ∃ pos : Nat, pos ≤ (ba l).size ∧ Hid (WordsRel w l pos wr)) (fun wr => (ba l).size - wr.iterPos (w.heap.size + 3))
  case atStart =>
    refine ⟨0, Nat.zero_le _, -1, [], words_new w l, ?_, (((Below.refl w.heap.size w).alloc (Nat.le_refl _) _).alloc (by simp) _).alloc (by simp; omega) _ |>.alloc (by simp; omega) _, rfl, by simp, .inl rfl⟩
    have := (MapKept.heap_alloc (((w.alloc (.cells #[.string (ba l)] 9)).alloc (.cells #[.slice none 0 0] 66)).alloc (.cells #[.int .i64 (-1)] 3)) (.stringIter (ba l) 0)).1
    rw [World.size_alloc, World.size_alloc, World.size_alloc] at this
    exact this
  case round =>
    obtain ⟨pos, hpos, HR⟩ := hrel
    obtain ⟨f, ws, hst, hit, hbw, hfr, hlen, hff⟩ := HR.out
    have hszr : w.heap.size + 3 < wr.heap.size := heap_lt hit
    by_cases hp : pos < (ba l).size
    · have hne : l.drop pos ≠ [] := by intro e; have := congrArg List.length e; rw [List.length_drop, ← HSZ.out] at this; simp at this; omega
      have hnx0 : ∀ ty, (Instr.next (.pointer (some ⟨w.heap.size + 3, 0, none⟩)) true ty).run Tryz.prog wr = _ := fun ty => Lib.run_next_any_at wr (w.heap.size + 3) (ba l) pos ty hit hp
      have hdec : Utf8.decode (ba l) pos = uN (l.drop pos) := uN_at l pos
      have hup := uN_pos _ hne
      have hrl := fun h => runeLen_unit hne h
      have hkb := @wKind_bad (l.drop pos)
      have hko := @wKind_ok (l.drop pos)
      rw [wFrom_cons hne, List.drop_drop] at hfr
      obtain ⟨st, hstp⟩ : ∃ q, wStep (l.drop pos) pos f ws = q := ⟨_, rfl⟩
      have s0 := @wStep_none (l.drop pos) pos f ws
      have s1 := @wStep_own (l.drop pos) pos f ws
      have s2 := @wStep_long (l.drop pos) pos f ws
      have s3 := @wStep_new (l.drop pos) pos f ws
      have s4 := @wStep_more (l.drop pos) pos f ws
      rw [hstp] at hfr s0 s1 s2 s3 s4
      obtain ⟨⟨r, n⟩, hrn⟩ : ∃ q, uN (l.drop pos) = q := ⟨_, rfl⟩
      rw [hrn] at hdec hup hrl hkb hko hfr s1 s2 s4
      rw [hdec] at hnx0
      dsimp only at hup hrl hkb hko hfr hnx0 s1 s2 s4
      rw [List.length_drop, ← HSZ.out] at hup
      have hst2 := hst.iter (ba l) (pos + n)
      have hit2 := Lib.iterAt_heap wr (w.heap.size + 3) (ba l) pos (pos + n) hit
      have hbw2 := Lib.below_iterAt hbw (k := w.heap.size + 3) (by omega) (ba l) (pos + n)
      have hsz2 : w.heap.size + 3 < (wr.iterAt (w.heap.size + 3) (ba l) (pos + n)).heap.size := by rw [Lib.iterAt_size]; omega
      obtain ⟨W, hW⟩ : ∃ W, wr.iterAt (w.heap.size + 3) (ba l) (pos + n) = W := ⟨_, rfl⟩
      rw [hW] at hnx0 hst2 hit2 hbw2 hsz2
      have hnx := hnx0
      have HST := Lib.hid hst2
      have HIT := Lib.hid hit2
      have HBW := Lib.hid hbw2
      have HIT0 := Lib.hid hit
      have HKB := Lib.hid hkb
      have HKO := Lib.hid hko
      have HRL := Lib.hid hrl
      have HS := Lib.hid (And.intro s0 (And.intro s1 (And.intro s2 (And.intro s3 s4))))
      have HFIN := Lib.hid (show ∀ (W : World) (f' : Int) (ws' : List (Nat × Nat)), st = (f', ws') → WState W w.heap.size l f' ws' → W.heap[w.heap.size + 3]? = some (.stringIter (ba l) (pos + n)) → Below w.heap.size w W → ws'.length ≤ 2 * (pos + n) → (f' = -1 ∨ 0 ≤ f' ∧ f' ≤ pos) → WordsRel w l (pos + n) W from
        fun W f' ws' e h1 h2 h3 h4 h5 => ⟨f', ws', h1, h2, h3, by rw [e] at hfr; exact hfr, h4, by omega⟩)
      have HLN := Lib.hid hlen
      have HFF := Lib.hid hff
      clear hnx0 hrn hdec hst hst2 hit hit2 hbw hbw2 hfr hlen hff hkb hko hrl s0 s1 s2 s3 s4 HR hstp hW
      have hi0 : (0 : Int) ≤ (pos : Int) := by omega
      have hi1 : (pos : Int) < ((ba l).size : Int) := by omega
      by_cases hr : r = 65533
      · have hreq : ((r : Int) == 65533) = true := by simp [hr]
        have HRE := Lib.hid (show Lib.runeLen (r : Int) = 3 by rw [hr]; decide)
        have HWK := Lib.hid (HKB.out hr)
        clear hr
        go_wp2_with fail
        refine (Tryz.utf8_RuneLen (r : Int) W).mono ?_
        rintro e w1 ⟨rfl, rfl⟩
        rw [HRE.out]
        go_wp2_with fail
        refine (kind_any r w1 ((HSK.out.below HBW.out).more HBW.out.size) (by omega)).mono ?_
        rintro e w2 ⟨rfl, hb2⟩
        have HST2 := Lib.hid (HST.out.below hb2)
        have HBW2 := Lib.hid (HBW.out.trans (hb2.mono HBW.out.size))
        have HIT2 := Lib.hid ((hb2.block _ (heap_lt HIT.out)).trans HIT.out)
        clear hb2
        go_wp2_with fail
        refine (end_any w.heap.size l f ws pos w2 (by rw [← HSZ.out]; omega) (by rw [← HSZ.out]; omega) HFF.out HST2.out (by have := HLN.out; omega) (HSF.out.below HBW2.out) (heap_lt HIT2.out)).mono ?_
        rintro e w3 ⟨rfl, hst3, hO3, hi3⟩
        have HST3 := Lib.hid hst3
        have HBW3 := Lib.hid (HBW2.out.trans (hO3.below HBW2.out.size (fun k h => h)))
        have HIT3 := Lib.hid (hi3.trans HIT2.out)
        have hln3 := wEnd_len f pos ws
        have HLN3 := Lib.hid (show (wEnd f pos ws).length ≤ 2 * pos + 1 by have := HLN.out; omega)
        clear hst3 hO3 hi3 hln3
        have HF := Lib.hid (show w3.heap[w.heap.size + 3]? = some (.stringIter (ba l) (pos + n)) ∧ WordsRel w l (pos + n) w3 from ⟨HIT3.out, HFIN.out w3 _ _ (HS.out.1 HWK.out) HST3.out HIT3.out HBW3.out (by have := HLN3.out; omega) (.inl rfl)⟩)
        go_wp2
        go_roundw
        case rel => exact ⟨pos + n, by omega, HF.out.2⟩
        case measure =>
          simp only [World.iterPos, HF.out.1, HIT0.out]
          omega
      · have hreq : ((r : Int) == 65533) = false := by simp; omega
        have HRE := Lib.hid (HRL.out hr)
        have HWO := Lib.hid (HKO.out hr)
        clear hr
        go_wp2_with fail
        refine (Tryz.utf8_RuneLen (r : Int) W).mono ?_
        rintro e w1 ⟨rfl, rfl⟩
        rw [HRE.out]
        go_wp2_with fail
        refine (kind_any r w1 ((HSK.out.below HBW.out).more HBW.out.size) (by omega)).mono ?_
        rintro e w2 ⟨rfl, hb2⟩
        have HST2 := Lib.hid (HST.out.below hb2)
        have HBW2 := Lib.hid (HBW.out.trans (hb2.mono HBW.out.size))
        have HIT2 := Lib.hid ((hb2.block _ (heap_lt HIT.out)).trans HIT.out)
        clear hb2
        obtain ⟨kd, hkd⟩ : ∃ x, kindP (r : Int) = x := ⟨_, rfl⟩
        have hkc := wKind_cases (l.drop pos)
        rw [HWO.out, hkd] at hkc
        rw [hkd]
        have HKD := Lib.hid (HWO.out.trans hkd)
        clear hkd
        rcases hkc with rfl | rfl | rfl
        · have HWK := Lib.hid HKD.out
          go_wp2_with fail
          refine (end_any w.heap.size l f ws pos w2 (by rw [← HSZ.out]; omega) (by rw [← HSZ.out]; omega) HFF.out HST2.out (by have := HLN.out; omega) (HSF.out.below HBW2.out) (heap_lt HIT2.out)).mono ?_
          rintro e w3 ⟨rfl, hst3, hO3, hi3⟩
          have HST3 := Lib.hid hst3
          have HBW3 := Lib.hid (HBW2.out.trans (hO3.below HBW2.out.size (fun k h => h)))
          have HIT3 := Lib.hid (hi3.trans HIT2.out)
          have hln3 := wEnd_len f pos ws
          have HLN3 := Lib.hid (show (wEnd f pos ws).length ≤ 2 * pos + 1 by have := HLN.out; omega)
          clear hst3 hO3 hi3 hln3
          have HF := Lib.hid (show w3.heap[w.heap.size + 3]? = some (.stringIter (ba l) (pos + n)) ∧ WordsRel w l (pos + n) w3 from ⟨HIT3.out, HFIN.out w3 _ _ (HS.out.1 HWK.out) HST3.out HIT3.out HBW3.out (by have := HLN3.out; omega) (.inl rfl)⟩)
          go_wp2
          go_roundw
          case rel => exact ⟨pos + n, by omega, HF.out.2⟩
          case measure =>
            simp only [World.iterPos, HF.out.1, HIT0.out]
            omega
        · obtain ⟨c2, f2⟩ := HST2.out.from_
          rcases HFF.out with hf | ⟨hf0, hf1⟩
          · subst hf
            have HP := Lib.hid (HST2.out.put (pos : Int))
            have HF := Lib.hid (show (w2.setCell ⟨w.heap.size + 1 + 1, 0, none⟩ (.int .i64 (pos : Int))).heap[w.heap.size + 3]? = some (.stringIter (ba l) (pos + n)) ∧ WordsRel w l (pos + n) (w2.setCell ⟨w.heap.size + 1 + 1, 0, none⟩ (.int .i64 (pos : Int))) from by
              have hi := HP.out.2.2.trans HIT2.out
              exact ⟨hi, HFIN.out _ _ _ (HS.out.2.2.2.1 HKD.out (by omega)) HP.out.1 hi (HBW2.out.trans (HP.out.2.1.below HBW2.out.size (fun k h => h))) (by have := HLN.out; omega) (.inr ⟨by omega, by omega⟩)⟩)
            go_wp2
            go_roundw
            case rel => exact ⟨pos + n, by omega, HF.out.2⟩
            case measure =>
              simp only [World.iterPos, HF.out.1, HIT0.out]
              omega
          · by_cases hlong : (40 : Int) < (pos : Int) + (n : Int) - f
            · have HX := Lib.hid (HS.out.2.2.1 HKD.out hf0 hlong)
              go_wp2_with fail
              refine (end_any w.heap.size l f ws pos w2 (by rw [← HSZ.out]; omega) (by rw [← HSZ.out]; omega) HFF.out HST2.out (by have := HLN.out; omega) (HSF.out.below HBW2.out) (heap_lt HIT2.out)).mono ?_
              rintro e w3 ⟨rfl, hst3, hO3, hi3⟩
              have HST3 := Lib.hid hst3
              have HBW3 := Lib.hid (HBW2.out.trans (hO3.below HBW2.out.size (fun k h => h)))
              have HIT3 := Lib.hid (hi3.trans HIT2.out)
              have hln3 := wEnd_len f pos ws
              have HLN3 := Lib.hid (show (wEnd f pos ws).length ≤ 2 * pos + 1 by have := HLN.out; omega)
              clear hst3 hO3 hi3 hln3
              obtain ⟨d2, g2⟩ := HST3.out.from_
              have HP := Lib.hid (HST3.out.put (pos : Int))
              have HF := Lib.hid (show (w3.setCell ⟨w.heap.size + 1 + 1, 0, none⟩ (.int .i64 (pos : Int))).heap[w.heap.size + 3]? = some (.stringIter (ba l) (pos + n)) ∧ WordsRel w l (pos + n) (w3.setCell ⟨w.heap.size + 1 + 1, 0, none⟩ (.int .i64 (pos : Int))) from by
                have hi := HP.out.2.2.trans HIT3.out
                exact ⟨hi, HFIN.out _ _ _ HX.out HP.out.1 hi (HBW3.out.trans (HP.out.2.1.below HBW3.out.size (fun k h => h))) (by have := HLN3.out; omega) (.inr ⟨by omega, by omega⟩)⟩)
              go_wp2
              go_roundw
              case rel => exact ⟨pos + n, by omega, HF.out.2⟩
              case measure =>
                simp only [World.iterPos, HF.out.1, HIT0.out]
                omega
            · have HX := Lib.hid (HS.out.2.2.2.2 HKD.out hf0 (by omega))
              have HF := Lib.hid (show w2.heap[w.heap.size + 3]? = some (.stringIter (ba l) (pos + n)) ∧ WordsRel w l (pos + n) w2 from ⟨HIT2.out, HFIN.out _ _ _ HX.out HST2.out HIT2.out HBW2.out (by have := HLN.out; omega) (.inr ⟨hf0, hf1⟩)⟩)
              go_wp2
              go_roundw
              case rel => exact ⟨pos + n, by omega, HF.out.2⟩
              case measure =>
                simp only [World.iterPos, HF.out.1, HIT0.out]
                omega
        · have HX := Lib.hid (HS.out.2.1 HKD.out)
          go_wp2_with fail
          refine (end_any w.heap.size l f ws pos w2 (by rw [← HSZ.out]; omega) (by rw [← HSZ.out]; omega) HFF.out HST2.out (by have := HLN.out; omega) (HSF.out.below HBW2.out) (heap_lt HIT2.out)).mono ?_
          rintro e w3 ⟨rfl, hst3, hO3, hi3⟩
          have HST3 := Lib.hid hst3
          have HBW3 := Lib.hid (HBW2.out.trans (hO3.below HBW2.out.size (fun k h => h)))
          have HIT3 := Lib.hid (hi3.trans HIT2.out)
          have hln3 := wEnd_len f pos ws
          have HLN3 := Lib.hid (show (wEnd f pos ws).length ≤ 2 * pos + 1 by have := HLN.out; omega)
          clear hst3 hO3 hi3 hln3
          obtain ⟨d2, g2⟩ := HST3.out.from_
          have HP := Lib.hid (HST3.out.put (pos : Int))
          go_wp2_with fail
          rw [show ((pos : Int) + (n : Int)) = ((pos + n : Nat) : Int) from by omega]
          obtain ⟨W4, hW4⟩ : ∃ W4, w3.setCell ⟨w.heap.size + 1 + 1, 0, none⟩ (.int .i64 (pos : Int)) = W4 := ⟨_, rfl⟩
          have HP4 : Hid (WState W4 w.heap.size l pos (wEnd f pos ws) ∧ Off (fun k => w.heap.size ≤ k) w3 W4 ∧ W4.heap[w.heap.size + 3]? = w3.heap[w.heap.size + 3]?) := by rw [← hW4]; exact HP
          rw [hW4]
          clear HP hW4 d2 g2
          have HBW4 := Lib.hid (HBW3.out.trans (HP4.out.2.1.below HBW3.out.size (fun k h => h)))
          have HIT4 := Lib.hid (HP4.out.2.2.trans HIT3.out)
          refine (end_any w.heap.size l (pos : Int) (wEnd f pos ws) (pos + n) W4 (by rw [← HSZ.out]; omega) (by rw [← HSZ.out]; omega) (.inr ⟨by omega, by omega⟩) HP4.out.1 (by have := HLN3.out; omega) (HSF.out.below HBW4.out) (heap_lt HIT4.out)).mono ?_
          rintro e w5 ⟨rfl, hst5, hO5, hi5⟩
          have HST5 := Lib.hid hst5
          have HBW5 := Lib.hid (HBW4.out.trans (hO5.below HBW4.out.size (fun k h => h)))
          have HIT5 := Lib.hid (hi5.trans HIT4.out)
          have HLN5 := Lib.hid (show (wEnd (pos : Int) (pos + n) (wEnd f pos ws)).length ≤ 2 * pos + 2 by have := wEnd_len (pos : Int) (pos + n) (wEnd f pos ws); have := HLN3.out; omega)
          clear hst5 hO5 hi5
          have HF := Lib.hid (show w5.heap[w.heap.size + 3]? = some (.stringIter (ba l) (pos + n)) ∧ WordsRel w l (pos + n) w5 from ⟨HIT5.out, HFIN.out w5 _ _ HX.out HST5.out HIT5.out HBW5.out (by have := HLN5.out; omega) (.inl rfl)⟩)
          go_wp2
          go_roundw
          case rel => exact ⟨pos + n, by omega, HF.out.2⟩
          case measure =>
            simp only [World.iterPos, HF.out.1, HIT0.out]
            omega
    · have hpe : pos = (ba l).size := by omega
      have hnx : ∀ ty, (Instr.next (.pointer (some ⟨w.heap.size + 3, 0, none⟩)) true ty).run Tryz.prog wr = _ := fun ty => Lib.run_next_end_at wr (w.heap.size + 3) (ba l) pos ty hit hp
      have c0 : wr.cell? ⟨w.heap.size, 0, none⟩ = some (.string (ba l)) := cell_box hst.1
      have HST := Lib.hid hst
      have HIT := Lib.hid hit
      have HBW := Lib.hid hbw
      have HFF := Lib.hid hff
      have HLN := Lib.hid hlen
      have HFR := Lib.hid (show wEnd f pos ws = rangesP l by
        rw [← hfr, List.drop_of_length_le (by rw [← HSZ.out]; omega), wFrom_nil])
      clear hst hit hbw hff hlen hfr HR
      go_wp2_with fail
      rw [show (((ba l).size : Nat) : Int) = ((pos : Nat) : Int) from by omega]
      refine (end_any w.heap.size l f ws pos wr (by rw [← HSZ.out]; omega) (by rw [← HSZ.out]; omega) HFF.out HST.out (by have := HLN.out; omega) (HSF.out.below HBW.out) (heap_lt HIT.out)).mono ?_
      rintro e w3 ⟨rfl, hst3, hO3, hi3⟩
      rw [HFR.out] at hst3
      obtain ⟨-, -, v, hv1, hv2⟩ := hst3
      have HV := Lib.hid hv2
      have c1 := cell_box hv1
      have HBW3 := Lib.hid (HBW.out.trans (hO3.below HBW.out.size (fun k h => h)))
      clear hv1 hv2 hO3 hi3
      go_wp2
      go_ret
      exact ⟨v, rfl, HV.out.more (by omega), HBW3.out⟩
end Go.Proofs.YtomcdhmcjndioaaGreatDoor
end
section
namespace Go.Proofs.YtomcdhmcjndioaaGreatDoor
open Go.RowKit
set_option linter.unusedVariables false

/-- Words in memory: those of the text l at the ranges ws. -/
def Wrds (w : World) (B : Nat) (A : Option Addr) (n : Nat) (l : List UInt8) (ws : List (Nat × Nat)) : Prop :=
  n = ws.length ∧ ∀ k (hk : k < ws.length), ∃ ad, A = some ad ∧ (ad.add (k * 3)).block < B ∧ w.cell? (ad.add (k * 3)) = some (.string (ba (wordAt l ws[k]))) ∧ w.cell? ⟨(ad.add (k * 3)).block, (ad.add (k * 3)).off + 1, none⟩ = some (.int .i64 ws[k].1) ∧ w.cell? ⟨(ad.add (k * 3)).block, (ad.add (k * 3)).off + 2, none⟩ = some (.int .i64 ws[k].2)
theorem Wrds.below {w w' : World} {B n : Nat} {A : Option Addr} {l : List UInt8} {ws : List (Nat × Nat)} (h : Wrds w B A n l ws) (hb : Below B w w') : Wrds w' B A n l ws :=
  ⟨h.1, fun k hk => by
    obtain ⟨ad, e, h1, h2, h3, h4⟩ := h.2 k hk
    exact ⟨ad, e, h1, (hb.cell h1).trans h2, (hb.cell (p := ⟨(ad.add (k * 3)).block, _, none⟩) h1).trans h3, (hb.cell (p := ⟨(ad.add (k * 3)).block, _, none⟩) h1).trans h4⟩⟩
theorem Wrds.more {w : World} {B B' n : Nat} {A : Option Addr} {l : List UInt8} {ws : List (Nat × Nat)} (h : Wrds w B A n l ws) (hB : B ≤ B') : Wrds w B' A n l ws :=
  ⟨h.1, fun k hk => by
    obtain ⟨ad, e, h1, h2, h3, h4⟩ := h.2 k hk
    exact ⟨ad, e, by omega, h2, h3, h4⟩⟩
theorem OwnWords.wrds {w : World} {B : Nat} {v : Value} {l : List UInt8} {ws : List (Nat × Nat)} (h : OwnWords w B v l ws) : ∃ A c, v = .slice A ws.length c ∧ ws.length ≤ c ∧ c ≤ maxLen ∧ Wrds w w.heap.size A ws.length l ws := by
  have h0 : w.ownsRow B 69 3 v ws.length (ws.flatMap (wordCells l)) := h
  rcases h0.2 with ⟨rfl, hn⟩ | ⟨g, cap, cur, rfl, hb, hg, q1, q2, q3⟩
  · have : ws = [] := List.eq_nil_of_length_eq_zero hn
    subst this
    exact ⟨none, 0, rfl, Nat.le_refl _, by simp, rfl, fun k hk => by simp at hk⟩
  · refine ⟨_, cap, rfl, q1, q2, rfl, fun k hk => ?_⟩
    have hc : ∀ i u, i < 3 → (wordCells l ws[k])[i]? = some u → w.cell? ⟨g, k * 3 + i, none⟩ = some u := fun i u hi hu => by
      have := h0.cells (g := g) rfl (k * 3 + i) u (by rw [word_get l ws k hk i hi]; exact hu)
      unfold Addr.add at this
      by_cases e0 : k * 3 + i = 0
      · rw [if_pos e0] at this; rw [e0]; exact this
      · rw [if_neg e0] at this; rw [Nat.zero_add] at this; exact this
    have e1 : (Addr.add ⟨g, 0, none⟩ (k * 3)) = ⟨g, k * 3, none⟩ := by
      unfold Addr.add
      split
      · rename_i e0; rw [e0]
      · rw [Nat.zero_add]
    refine ⟨⟨g, 0, none⟩, rfl, by rw [add_block]; exact heap_lt hg, ?_, ?_, ?_⟩
    · rw [e1]; exact hc 0 _ (by omega) rfl
    · rw [e1]; exact hc 1 _ (by omega) rfl
    · rw [e1]; exact hc 2 _ (by omega) rfl
def StrsBack (w : World) (ss : List (List UInt8)) (e : Ending) (w' : World) : Prop := ∃ v, e = .returned v ∧ OwnStrs w' w.heap.size v ss ∧ Below w.heap.size w w'
theorem wEnd_le {f : Int} {t : Nat} {ws : List (Nat × Nat)} : (wEnd f t ws).length ≤ ws.length + 1 := wEnd_len f t ws
theorem wRun_len : ∀ (k : Nat) (l : List UInt8) (a : Nat) (f : Int) (ws : List (Nat × Nat)), (wRun k l a f ws).length ≤ ws.length + 2 * k + 1
  | 0, l, a, f, ws => wEnd_len f a ws
  | k + 1, l, a, f, ws => by
    unfold wRun
    split
    · have := wEnd_len f a ws; omega
    · have h1 := wRun_len k (l.drop (uN l).2) (a + (uN l).2) (wStep l a f ws).1 (wStep l a f ws).2
      have h2 : (wStep l a f ws).2.length ≤ ws.length + 2 := by
        have := wEnd_len f a ws
        unfold wStep
        repeat' split
        all_goals (simp; try omega)
      omega
theorem ranges_len (s : List UInt8) : (rangesP s).length ≤ 2 * s.length + 1 := by
  have := wRun_len s.length s 0 (-1) []
  unfold rangesP
  simpa using this
def ListRel (w : World) (l : List UInt8) (k : Nat) (v : Value) (wr : World) : Prop := OwnStrs wr w.heap.size v ((listP l).take k) ∧ Below w.heap.size w wr
set_option maxRecDepth 100000 in
set_option maxHeartbeats 4000000 in
theorem list_any (l : List UInt8) (w : World) (hf : fSpans w w.heap.size) (hk : kSpans w w.heap.size) (hl : l.length ≤ 100000000) : Calls Tryz.prog 20 #[.string (ba l)] w (StrsBack w (listP l)) := by
  go_enter Tryz.func20, Tryz.ntmps20
  go_wp2_with fail
  refine (words_any l w hf hk hl).mono ?_
  rintro e w1 ⟨v, rfl, hv, hb⟩
  obtain ⟨A, c, rfl, hc1, hc2, hW⟩ := hv.wrds
  have HW := Lib.hid hW
  have HB := Lib.hid hb
  have hrl := ranges_len l
  have hll : (listP l).length = (rangesP l).length := by unfold listP; rw [List.length_map]
  obtain ⟨n, hn⟩ : ∃ n, (rangesP l).length = n := ⟨_, rfl⟩
  have hsz1 : w.heap.size ≤ w1.heap.size := hb.size
  rw [hn] at hW HW hrl hc1 hll
  have HN := Lib.hid hn
  have HLL := Lib.hid hll
  have hn9 : n ≤ 200000001 := by omega
  rw [hn]
  clear hW hb hv hn hll hf hk hrl
  go_wp2
  go_loopw [3, 9] (fun v i wr => ∃ k : Nat, k ≤ n ∧ i = .int .i64 (k : Int) ∧ Hid (ListRel w1 l k v wr)) (fun _ i _ => n - (intOf i).toNat)
  case atStart => exact ⟨0, Nat.zero_le _, rfl, OwnStrs.nil_ _ _, Below.refl _ _⟩
  case round =>
    obtain ⟨k, hk, rfl, HR⟩ := hrel
    have hsz := HR.out.2.size
    by_cases hlt : k < n
    · have hk2 : (k : Int) < n := by omega
      have hkl : k < (rangesP l).length := by rw [HN.out]; exact hlt
      obtain ⟨ad, rfl, hbl, c0, c1, c2⟩ := (HW.out.below HR.out.2).2 k hkl
      obtain ⟨r, hr⟩ : ∃ r, (rangesP l)[k] = r := ⟨_, rfl⟩
      rw [hr] at c0 c1 c2
      have HP := Lib.hid (show (listP l).take (k + 1) = (listP l).take k ++ [wordAt l r] by
        rw [List.take_succ_eq_append_getElem (by rw [HLL.out]; exact hlt)]
        unfold listP
        rw [List.getElem_map, hr])
      clear hr
      obtain ⟨t, ht⟩ : ∃ t, wordAt l r = t := ⟨_, rfl⟩
      rw [ht] at c0 HP
      clear ht
      have hown := World.ownsRow.alloc HR.out.1 (.cells #[.string (ba t), .int .i64 r.1, .int .i64 r.2] 69)
      have HOWN : Hid (OwnStrs (wr.alloc (.cells #[.string (ba t), .int .i64 r.1, .int .i64 r.2] 69)) w1.heap.size _ ((listP l).take k)) := Lib.hid hown
      have hB : w1.heap.size ≤ (wr.alloc (.cells #[.string (ba t), .int .i64 r.1, .int .i64 r.2] 69)).heap.size := by simp; omega
      have HAL := Lib.hid (show ((listP l).take k).length < 1099511627776 by rw [List.length_take]; omega)
      have HBEL := Lib.hid (HR.out.2.alloc hsz (.cells #[.string (ba t), .int .i64 r.1, .int .i64 r.2] 69))
      clear hown
      go_wp2_with (at_builtin; go_must (refine wpList_pushStr (s := t) HOWN.out hB HAL.out rfl (.tmp 13) (.tmp 16) 32 1 rfl Tryz.underlying32 rfl (by show Value.slice (some ⟨wr.heap.size + 1, 0, none⟩) 1 1 = _; simp) ?_); intro v2 w2 h1 h2 h3; (have H1 := Lib.hid h1; have H2 := Lib.hid h2; clear h1 h2 h3))
      go_roundw
      case rel =>
        refine ⟨k + 1, by omega, by go_num, ?_, HBEL.out.grown H2.out hB fun g e => (HOWN.out.lt g e).1⟩
        rw [HP.out]
        exact H1.out
      case measure => simp [intOf] <;> omega
    · obtain rfl : k = n := by omega
      go_wp2
      go_ret
      refine ⟨_, rfl, ?_, HB.out.trans (HR.out.2.mono hsz1)⟩
      have := HR.out.1
      rw [List.take_of_length_le (by rw [HLL.out]; exact Nat.le_refl _)] at this
      exact this.more hsz1
end Go.Proofs.YtomcdhmcjndioaaGreatDoor
end
section
namespace Go.Proofs.YtomcdhmcjndioaaGreatDoor
open Go.RowKit
set_option linter.unusedVariables false

theorem join_sp : ∀ ss : List (List UInt8), Lib.join ss [32] = joinSp ss
  | [] => rfl
  | [w] => Lib.join_one w [32]
  | w :: v :: r => by
    have ih := join_sp (v :: r)
    rw [Lib.join_cons] at ih ⊢
    unfold joinSp
    rw [← ih]
    simp [Lib.joinTail]
theorem joinSp_len (M : Nat) : ∀ ss : List (List UInt8), (∀ x ∈ ss, x.length ≤ M) → (joinSp ss).length ≤ ss.length * (M + 1)
  | [], _ => by simp [joinSp]
  | [w], h => by
    have := h w (by simp)
    simp [joinSp]
    omega
  | w :: v :: r, h => by
    have h1 := h w (by simp)
    have ih := joinSp_len M (v :: r) (fun x hx => h x (List.mem_cons_of_mem _ hx))
    unfold joinSp
    rw [List.length_append, List.length_cons]
    have e : (w :: v :: r).length * (M + 1) = (v :: r).length * (M + 1) + (M + 1) := by rw [List.length_cons, Nat.add_mul, Nat.one_mul]
    omega
theorem list_each (l : List UInt8) : ∀ x ∈ listP l, x.length ≤ l.length := fun x hx => by
  unfold listP at hx
  obtain ⟨r, _, rfl⟩ := List.mem_map.1 hx
  unfold wordAt
  rw [foldP_len _ _ (Nat.le_refl _), List.length_drop, List.length_take]
  omega
theorem list_count (l : List UInt8) : (listP l).length ≤ 2 * l.length + 1 := by
  unfold listP
  rw [List.length_map]
  exact ranges_len l
theorem listJoin_len (l : List UInt8) (h : l.length ≤ 1000000) : (joinSp (listP l)).length ≤ 140737488355328 := by
  have h1 := joinSp_len l.length (listP l) (list_each l)
  have h2 := list_count l
  have h3 : (listP l).length * (l.length + 1) ≤ (2 * l.length + 1) * (l.length + 1) := Nat.mul_le_mul_right _ h2
  have h4 : (2 * l.length + 1) * (l.length + 1) ≤ (2 * 1000000 + 1) * (1000000 + 1) := Nat.mul_le_mul (by omega) (by omega)
  omega
theorem qjoin_any (ss : List (List UInt8)) (v : Value) (B : Nat) (w : World) (hs : OwnStrs w B v ss) (hn : ss.length ≤ 140737488355328) (hl : (joinSp ss).length ≤ 140737488355328) :
    Calls Tryz.prog 40 #[v, .string ⟨#[32]⟩] w (StrB w (joinSp ss)) := by
  rcases hs.2 with ⟨rfl, h0⟩ | ⟨g, cap, cur, rfl, hb, hg, h1, h2, h3, h4⟩
  · have : ss = [] := List.eq_nil_of_length_eq_zero h0
    subst this
    refine (Tryz.strings_Join_none none 0 ⟨#[32]⟩ w).mono ?_
    rintro e w' ⟨rfl, rfl⟩
    exact ⟨rfl, Below.refl _ _⟩
  · have hj : Lib.join ((ss.map ba).map (·.data.toList)) (⟨#[32]⟩ : ByteArray).data.toList = joinSp ss := by
      rw [List.map_map, show ((fun x : ByteArray => x.data.toList) ∘ ba) = id from funext fun y => ba_list y, List.map_id]
      exact join_sp ss
    have hlen : (ss.map ba).length = ss.length := List.length_map _
    have := Tryz.strings_Join g 0 cap (ss.map ba) ⟨#[32]⟩ w (fun j x hx => by
      rw [List.getElem?_map] at hx
      obtain ⟨y, hy, rfl⟩ := Option.map_eq_some_iff.1 hx
      have hc := World.ownsRow.cells hs (g := g) rfl j (.string (ba y)) (by unfold sv; rw [List.getElem?_map, hy]; rfl)
      have e : (⟨g, 0, none⟩ : Addr).add j = ⟨g, 0 + j, none⟩ := by
        unfold Addr.add
        split
        · rename_i h; subst h; rfl
        · rfl
      rw [← e]; exact hc) (heap_lt hg) (by rw [hlen]; exact hn) (by rw [hlen]; exact h1) (by rw [hj]; exact hl)
    rw [hj, hlen] at this
    exact this
/-- What a leaf gives: a query without children, and whether it is one. -/
def LfPost (w : World) (o : Option Qry) (e : Ending) (w' : World) : Prop :=
  ∃ (op fld : Int) (t : List UInt8) (n : Int), e = .returned (.tuple #[.agg #[.int .i64 op, .int .i64 fld, .string (ba t), .int .i64 n, .slice none 0 0], .bool o.isSome]) ∧ Below w.heap.size w w' ∧ (∀ q, o = some q → q = .mk op fld t n []) ∧ RawOk ⟨op, fld, t, n, (none, 0, 0)⟩
theorem leaf_ok {op fld n : Int} {t : List UInt8} (h1 : -1000 ≤ op ∧ op ≤ 1000) (h2 : -1000 ≤ fld ∧ fld ≤ 1000) (h3 : -9223372036854775808 ≤ n ∧ n ≤ 9223372036854775807) : RawOk ⟨op, fld, t, n, (none, 0, 0)⟩ :=
  ⟨⟨by dsimp only; omega, by dsimp only; omega⟩, ⟨by dsimp only; omega, by dsimp only; omega⟩, h3⟩
theorem lf_end {w w' : World} {o : Option Qry} {op fld n : Int} {t : List UInt8} {s : ByteArray} {b : Bool} (ho : ∀ q, o = some q → q = .mk op fld t n []) (hb : b = o.isSome) (hs : s = ba t) (hw : Below w.heap.size w w') (hk : RawOk ⟨op, fld, t, n, (none, 0, 0)⟩) :
    LfPost w o (.returned (.tuple #[.agg #[.int .i64 op, .int .i64 fld, .string s, .int .i64 n, .slice none 0 0], .bool b])) w' := by
  subst hb hs
  exact ⟨op, fld, t, n, rfl, hw, ho, hk⟩
theorem lf_none {w w' : World} {o : Option Qry} {op fld n : Int} {t : List UInt8} {s : ByteArray} (ho : o = none) (hs : s = ba t) (hw : Below w.heap.size w w') (hk : RawOk ⟨op, fld, t, n, (none, 0, 0)⟩) :
    LfPost w o (.returned (.tuple #[.agg #[.int .i64 op, .int .i64 fld, .string s, .int .i64 n, .slice none 0 0], .bool false])) w' := by
  subst ho
  exact lf_end (fun q h => by cases h) rfl hs hw hk
theorem lf_some {w w' : World} {o : Option Qry} {q : Qry} {op fld n : Int} {t : List UInt8} {s : ByteArray} (ho : o = some q) (hq : q = .mk op fld t n []) (hs : s = ba t) (hw : Below w.heap.size w w') (hk : RawOk ⟨op, fld, t, n, (none, 0, 0)⟩) :
    LfPost w o (.returned (.tuple #[.agg #[.int .i64 op, .int .i64 fld, .string s, .int .i64 n, .slice none 0 0], .bool true])) w' := by
  subst ho
  exact lf_end (fun q' h => by injection h with h; rw [← h, hq]) rfl hs hw hk
/-- Block g holds a query that is empty as yet. -/
def QzAt (w : World) (g : Nat) : Prop := w.heap[g]? = some (.cells #[.int .i64 0, .int .i64 0, .string ⟨#[]⟩, .int .i64 0, .slice none 0 0] 25 (0, 0))
theorem QzAt.below {w w' : World} {g B : Nat} (h : QzAt w g) (hb : Below B w w') (hg : g < B) : QzAt w' g := (hb.block g hg).trans h
theorem QzAt.cells {w : World} {g : Nat} (h : QzAt w g) : w.cell? ⟨g, 0, none⟩ = some (.int .i64 0) ∧ w.cell? ⟨g, 1, none⟩ = some (.int .i64 0) ∧ w.cell? ⟨g, 2, none⟩ = some (.string ⟨#[]⟩) ∧ w.cell? ⟨g, 3, none⟩ = some (.int .i64 0) ∧ w.cell? ⟨g, 4, none⟩ = some (.slice none 0 0) ∧ ∀ i, w.frozen? ⟨g, i, none⟩ = false := by
  unfold QzAt at h
  refine ⟨?_, ?_, ?_, ?_, ?_, fun i => Lib.frozen_of_heap h i⟩ <;> (rw [Lib.cell_of_heap h]; rfl)
theorem qzAt_new (w : World) : QzAt (w.alloc (.cells #[.int .i64 0, .int .i64 0, .string ⟨#[]⟩, .int .i64 0, .slice none 0 0] 25)) w.heap.size := (MapKept.heap_alloc w _).1
theorem qz_below (w : World) : Below w.heap.size w (w.alloc (.cells #[.int .i64 0, .int .i64 0, .string ⟨#[]⟩, .int .i64 0, .slice none 0 0] 25)) := (Below.refl _ _).alloc (Nat.le_refl _) _
theorem textQ_one {l w : List UInt8} {f : Nat} (h : listP l = [w]) : textQ l f = some (.mk 2 f w 0 []) := by unfold textQ; rw [h]
theorem textQ_none {l : List UInt8} {f : Nat} (h : listP l = []) : textQ l f = none := by unfold textQ; rw [h]
theorem textQ_more {l : List UInt8} {f : Nat} (h : 2 ≤ (listP l).length) : textQ l f = some (.mk 3 f (joinSp (listP l)) 0 []) := by
  unfold textQ
  split
  · rename_i e; rw [e] at h; simp at h
  · rename_i w e; rw [e] at h; simp at h
  · rfl
set_option maxRecDepth 100000 in
set_option maxHeartbeats 4000000 in
theorem qtext_any (l : List UInt8) (f : Nat) (w : World) (hl : l.length ≤ 1000000) (hf : f ≤ 100) (hT : QTabs w) :
    Calls Tryz.prog 95 #[.string (ba l), .int .i64 (f : Int)] w (LfPost w (textQ l f)) := by
  have HT := Lib.hid hT
  have HJL := Lib.hid (listJoin_len l hl)
  have HLC := Lib.hid (show (listP l).length ≤ 140737488355328 by have := list_count l; omega)
  have HTX := Lib.hid (And.intro (@textQ_one l · f) (And.intro (@textQ_none l f) (@textQ_more l f)))
  obtain ⟨fi, hfi⟩ : ∃ x : Int, (f : Int) = x := ⟨_, rfl⟩
  have f0 : 0 ≤ fi := by omega
  have f1 : fi ≤ 100 := by omega
  have HFI := Lib.hid hfi
  rw [hfi]
  clear hfi hT
  go_enter Tryz.func95, Tryz.ntmps95
  go_wp2_with fail
  refine (list_any l _ (HT.out.below (qz_below w)).fs (HT.out.below (qz_below w)).ks (by omega)).mono ?_
  rintro e w1 ⟨v, rfl, hv, hb⟩
  have HB1 := Lib.hid ((qz_below w).trans (hb.mono (by simp)))
  have HZ1 := Lib.hid ((qzAt_new w).below hb (by simp))
  have z1 : w.heap.size < w1.heap.size := by have := hb.size; simp at this; omega
  obtain ⟨A, c, hvv, hc1, hc2, hst⟩ := hv.strs
  have HV := Lib.hid hv
  have HJ := Lib.hid (fun W (hW : Below w1.heap.size w1 W) => qjoin_any (listP l) v _ W (HV.out.below hW) HLC.out HJL.out)
  obtain ⟨J, hJ⟩ : ∃ J, joinSp (listP l) = J := ⟨_, rfl⟩
  have HJE := Lib.hid hJ
  simp only [hJ] at HTX
  simp only [hJ] at HJ
  obtain ⟨N, hN⟩ : ∃ N, (listP l).length = N := ⟨_, rfl⟩
  have HN := Lib.hid hN
  simp only [hN] at hvv HTX hc1 HLC
  subst hvv
  clear hb hv hJ hN hst HJL
  unfold StrB at HJ
  go_wp2_with fail
  refine (HJ.out w1 (Below.refl _ _)).mono ?_
  rintro e w2 ⟨rfl, hb2⟩
  have HB2 := Lib.hid (HB1.out.trans (hb2.mono HB1.out.size))
  have HZ2 := Lib.hid (HZ1.out.below hb2 z1)
  have z2 : w.heap.size < w2.heap.size := by have := hb2.size; omega
  clear hb2
  obtain ⟨r0, r1, r2, r3, r4, rf⟩ := HZ2.out.cells
  have hlc := HLC.out
  by_cases h0 : N = 0
  · have HO := Lib.hid (HTX.out.2.1 (List.eq_nil_of_length_eq_zero (HN.out.trans h0)))
    subst h0
    go_wp2
    refine bodyPost_ret (v := .tuple #[.agg #[.int .i64 3, .int .i64 fi, .string (ba J), .int .i64 0, .slice none 0 0], .bool false]) (by simp [results, Tryz.results95, go_sem, r0, r1, r2, r3, r4, z2]) rfl ?_
    refine lf_none HO.out rfl ?_ (leaf_ok (by omega) (by omega) (by omega))
    refine Below.alloc ?_ (by simp; omega) _
    repeat (first | (with_reducible exact HB2.out) | refine Below.setCell ?_ (by simp) _)
  · by_cases h1 : N = 1
    · obtain ⟨x, hx⟩ := List.length_eq_one_iff.1 (HN.out.trans h1)
      have HO := Lib.hid (HTX.out.1 x hx)
      have HJX := Lib.hid (show J = x by rw [← HJE.out, hx]; rfl)
      subst h1
      clear h0 hx
      go_wp2
      refine bodyPost_ret (v := .tuple #[.agg #[.int .i64 2, .int .i64 fi, .string (ba J), .int .i64 0, .slice none 0 0], .bool true]) (by simp [results, Tryz.results95, go_sem, r0, r1, r2, r3, r4, z2]) rfl ?_
      refine lf_some HO.out (by rw [HFI.out, HJX.out]) rfl ?_ (leaf_ok (by omega) (by omega) (by omega))
      refine Below.alloc ?_ (by simp; omega) _
      repeat (first | (with_reducible exact HB2.out) | refine Below.setCell ?_ (by simp) _)
    · have HO := Lib.hid (HTX.out.2.2 (by omega))
      have g1 : ((N : Int) == 1) = false := by simp; omega
      have g2 : decide ((0 : Int) < (N : Int)) = true := decide_eq_true (by omega)
      have g3 : 0 < N := by omega
      clear h0 h1
      go_wp2
      refine bodyPost_ret (v := .tuple #[.agg #[.int .i64 3, .int .i64 fi, .string (ba J), .int .i64 0, .slice none 0 0], .bool true]) (by simp [results, Tryz.results95, go_sem, r0, r1, r2, r3, r4, z2]) rfl ?_
      refine lf_some HO.out (by rw [HFI.out]) rfl ?_ (leaf_ok (by omega) (by omega) (by omega))
      refine Below.alloc ?_ (by simp; omega) _
      repeat (first | (with_reducible exact HB2.out) | refine Below.setCell ?_ (by simp) _)
theorem plainQ_star {l w : List UInt8} {f : Nat} (h : l.getLast? = some 42) (h1 : listP l.dropLast = [w]) : plainQ l f = some (.mk 4 f w 0 []) := by unfold plainQ; rw [if_pos h, h1]
theorem plainQ_many {l : List UInt8} {f : Nat} (h : l.getLast? = some 42) (h1 : (listP l.dropLast).length ≠ 1) : plainQ l f = textQ l f := by
  unfold plainQ
  rw [if_pos h]
  split
  · rename_i w e; rw [e] at h1; exact absurd rfl h1
  · rfl
theorem plainQ_no {l : List UInt8} {f : Nat} (h : ¬ l.getLast? = some 42) : plainQ l f = textQ l f := by unfold plainQ; rw [if_neg h]
end Go.Proofs.YtomcdhmcjndioaaGreatDoor
end
section
namespace Go.Proofs.YtomcdhmcjndioaaGreatDoor
open Go.RowKit
set_option linter.unusedVariables false

def WclPost (w : World) (b : Nat) (e : Ending) (w' : World) : Prop := e = .returned (.bool false) ∧ w.grownBy w' (some b)
theorem bool_zero (W : World) : (zeroValue 4).run Tryz.prog W = .ok (.bool false) W := by
  simp [zeroValue, go_sem]
  try rfl
set_option maxRecDepth 100000 in
set_option maxHeartbeats 4000000 in
theorem wcl_any (x : List UInt8) (hx : x.length ≤ 1000000) (b g : Nat) (w : World) (hg : w.heap[g]? = some (.cells #[.map (some b)] 55 (0, 0))) (hm : MapL strK w b (fun _ => none) 0) :
    Calls Tryz.prog 22 #[.string (ba x), .pointer (some ⟨g, 0, none⟩)] w (WclPost w b) := by
  have hfit : strK.fits x := by show x.length ≤ maxLen; unfold maxLen; omega
  have hl := hm.look (t := 55) Tryz.underlying55 (bool_zero w) hfit
  obtain ⟨w', hr, _, hgr⟩ := hm.put (t := 55) Tryz.underlying55 (by unfold maxLen; omega) hfit (.bool true)
  have hl2 : (Instr.lookup 55 (.map (some b)) (.string (ba x)) false).run Tryz.prog w = .ok (.bool false) w := hl
  have hr2 : (Instr.mapUpdate 55 (.map (some b)) (.string (ba x)) (.bool true)).run Tryz.prog w = .ok () w' := hr
  have c0 : w.cell? ⟨g, 0, none⟩ = some (.map (some b)) := by rw [Lib.cell_of_heap hg]; rfl
  have HG := Lib.hid hgr
  clear hl hr hgr hm hg
  go_enter Tryz.func22, Tryz.ntmps22
  go_wp2
  go_ret
  exact ⟨rfl, HG.out⟩
def IfnPost (w : World) (b : Nat) (e : Ending) (w' : World) : Prop := e = .returned (.int .i64 (-1)) ∧ w.grownBy w' (some b)
set_option maxRecDepth 100000 in
set_option maxHeartbeats 4000000 in
theorem idxfn_any (ss : List (List UInt8)) (h1 : ss.length ≤ 1) (hx : ∀ x ∈ ss, x.length ≤ 1000000) (v : Value) (B : Nat) (b g : Nat) (w : World) (hv : OwnStrs w B v ss) (hg : w.heap[g]? = some (.cells #[.map (some b)] 55 (0, 0))) (hm : MapL strK w b (fun _ => none) 0) :
    Calls Tryz.prog 37 #[v, .func (.func 22) #[] #[.pointer (some ⟨g, 0, none⟩)]] w (IfnPost w b) := by
  obtain ⟨A, c, rfl, hc1, hc2, hst⟩ := hv.strs
  match ss, h1, hx with
  | [], _, _ =>
    clear hv hst hc1
    have HG := Lib.hid (World.grownBy.refl w (some b))
    show Calls _ _ #[.slice A 0 c, _] _ _
    go_enter Tryz.func37, Tryz.ntmps37
    go_wp2
    go_loopw [8] (fun i wr => i = .int .i64 0 ∧ wr = w) (fun i _ => 0)
    case atStart => exact ⟨rfl, rfl⟩
    case round =>
      obtain ⟨rfl, rfl⟩ := hrel
      go_wp2
      go_ret
      exact ⟨rfl, HG.out⟩
  | [x], _, hx =>
    have HW := Lib.hid (wcl_any x (hx x (by simp)) b g w hg hm)
    rcases hst.2 with h | ⟨ad, rfl, hb, hcell⟩
    · exact absurd h (by simp [sv])
    · have c0 : w.cell? ad = some (.string (ba x)) := by
        have h := hcell 0 (.string (ba x)) rfl
        have e0 : ad.add 0 = ad := by unfold Addr.add; rfl
        rw [e0] at h
        exact h
      unfold WclPost at HW
      clear hv hst hc1 hcell hg hm
      show Calls _ _ #[.slice (some ad) 1 c, _] _ _
      go_enter Tryz.func37, Tryz.ntmps37
      go_wp2
      have HG0 := Lib.hid (World.grownBy.refl w (some b))
      go_loopw [8] (fun i wr => ∃ k : Nat, k ≤ 1 ∧ i = .int .i64 (k : Int) ∧ (k = 0 → wr = w) ∧ Hid (w.grownBy wr (some b))) (fun i _ => 1 - (intOf i).toNat)
      case atStart => exact ⟨0, by omega, rfl, fun _ => rfl, HG0⟩
      case round =>
        obtain ⟨k, hk, rfl, hw, HG⟩ := hrel
        by_cases h0 : k = 0
        · obtain rfl := hw h0
          subst h0
          clear hw
          go_wp2_with fail
          refine HW.out.mono ?_
          rintro e w2 ⟨rfl, hg2⟩
          have HG2 := Lib.hid hg2
          clear hg2
          go_wp2
          go_roundw
          case rel => exact ⟨1, Nat.le_refl _, rfl, (fun h => by omega), HG2⟩
          case measure => simp [intOf]
        · obtain rfl : 1 = k := by omega
          clear hw h0
          go_wp2
          go_ret
          exact ⟨rfl, HG.out⟩
def DfnPost (w : World) (v : Value) (b : Nat) (e : Ending) (w' : World) : Prop := e = .returned v ∧ w.grownBy w' (some b)
set_option maxRecDepth 100000 in
set_option maxHeartbeats 4000000 in
theorem delfn_any (ss : List (List UInt8)) (h1 : ss.length ≤ 1) (hx : ∀ x ∈ ss, x.length ≤ 1000000) (v : Value) (B : Nat) (b g : Nat) (w : World) (hv : OwnStrs w B v ss) (hg : w.heap[g]? = some (.cells #[.map (some b)] 55 (0, 0))) (hm : MapL strK w b (fun _ => none) 0) :
    Calls Tryz.prog 21 #[v, .func (.func 22) #[] #[.pointer (some ⟨g, 0, none⟩)]] w (DfnPost w v b) := by
  have HI := Lib.hid (idxfn_any ss h1 hx v B b g w hv hg hm)
  unfold IfnPost at HI
  obtain ⟨A, c, rfl, hc1, hc2, hst⟩ := hv.strs
  clear hv hst hc1 hc2 hg hm
  go_enter Tryz.func21, Tryz.ntmps21
  go_wp2_with fail
  refine HI.out.mono ?_
  rintro e w2 ⟨rfl, hg2⟩
  have HG2 := Lib.hid hg2
  clear hg2
  go_wp2
  go_ret
  exact ⟨rfl, HG2.out⟩
/-- What is claimed of Words at the query q. -/
def WordsC (q : Qry) (ws : List (List UInt8)) : Prop := ∀ (w : World) (r : RawQ), QDeep w (fun _ => True) r q → QTabs w → Calls Tryz.prog 10 #[r.val] w (StrsBack w ws)
end Go.Proofs.YtomcdhmcjndioaaGreatDoor
end
section
namespace Go.Proofs.YtomcdhmcjndioaaGreatDoor
open Go.RowKit
set_option linter.unusedVariables false

/-- A string handed back, and whether there is one. -/
def WrPost (w : World) (o : Option (List UInt8)) (e : Ending) (w' : World) : Prop :=
  ∃ t : List UInt8, e = .returned (.tuple #[.string (ba t), .bool o.isSome]) ∧ (∀ x, o = some x → x = t) ∧ Below w.heap.size w w'
def WdPost (w : World) (b : Bool) (e : Ending) (w' : World) : Prop := e = .returned (.bool b) ∧ Below w.heap.size w w'
theorem join_regrown {w1 : World} {ss : List (List UInt8)} {A : Option Addr} {n c : Nat} {B : Nat} (h : OwnStrs w1 B (.slice A n c) ss) (hn : ss.length ≤ 140737488355328) (hl : (joinSp ss).length ≤ 140737488355328) (d : Nat) (os : Array Obj) :
    Calls Tryz.prog 40 #[.slice A n c, .string ⟨#[32]⟩] (Sort.grow (redrawn w1 d) os) fun e w'' => e = .returned (.string (ba (joinSp ss))) ∧ ∃ p : Regrown, w'' = Sort.grow (redrawn w1 p.d) p.os :=
  Calls.regrown_of (qjoin_any ss _ B _ (OwnStrs.below h (below_regrown w1 d os)) hn hl)
/-- The box of a query. -/
def WBox (w : World) (g : Nat) (r : RawQ) : Prop := w.heap[g]? = some (.cells #[.int .i64 r.op, .int .i64 r.fld, .string (ba r.text), .int .i64 r.n, .slice r.kids.1 r.kids.2.1 r.kids.2.2] 25 (0, 0))
theorem WBox.cells {w : World} {g : Nat} {o f : Int} {t : List UInt8} {n : Int} {A : Option Addr} {m c : Nat} (h : WBox w g ⟨o, f, t, n, (A, m, c)⟩) : w.cell? ⟨g, 0, none⟩ = some (.int .i64 o) ∧ w.cell? ⟨g, 1, none⟩ = some (.int .i64 f) ∧ w.cell? ⟨g, 2, none⟩ = some (.string (ba t)) ∧ w.cell? ⟨g, 3, none⟩ = some (.int .i64 n) ∧ w.cell? ⟨g, 4, none⟩ = some (.slice A m c) ∧ g < w.heap.size := by
  have h0 := h
  unfold WBox at h
  refine ⟨?_, ?_, ?_, ?_, ?_, heap_lt h0⟩ <;> (rw [Lib.cell_of_heap h]; rfl)
theorem wbox_new (w : World) (r : RawQ) : WBox (w.alloc (.cells #[.int .i64 r.op, .int .i64 r.fld, .string (ba r.text), .int .i64 r.n, .slice r.kids.1 r.kids.2.1 r.kids.2.2] 25)) w.heap.size r := (MapKept.heap_alloc w _).1
set_option maxRecDepth 100000 in
set_option maxHeartbeats 4000000 in
theorem worded_yes (op fld : Int) (t : List UInt8) (A0 : Option Addr) (m0 c0 : Nat) (m : Nat) (least most : Int) (hm : (listP t).length = m) (h1 : least ≤ m) (h2 : (m : Int) ≤ most) (hj : joinSp (listP t) = t) (ht : t.length ≤ 1000) (w : World) (hT : QTabs w) :
    Calls Tryz.prog 57 #[.agg #[.int .i64 op, .int .i64 fld, .string (ba t), .int .i64 0, .slice A0 m0 c0], .int .i64 least, .int .i64 most] w (WdPost w true) := by
  have hb0 : Below w.heap.size w (w.alloc (.cells #[.int .i64 op, .int .i64 fld, .string (ba t), .int .i64 0, .slice A0 m0 c0] 25)) := (Below.refl _ _).alloc (Nat.le_refl _) _
  have hlist := list_any t _ (hT.below hb0).fs (hT.below hb0).ks (by omega)
  have HK := Lib.hid (wbox_new w ⟨op, fld, t, 0, (A0, m0, c0)⟩)
  have HB0 := Lib.hid hb0
  have HL := Lib.hid hlist
  have HLC := Lib.hid (show (listP t).length ≤ 140737488355328 by have := list_count t; omega)
  have HJL := Lib.hid (show (joinSp (listP t)).length ≤ 140737488355328 by rw [hj]; omega)
  have HJ := Lib.hid hj
  have HM := Lib.hid hm
  have g1 : decide (least ≤ (m : Int)) = true := decide_eq_true h1
  have g2 : decide ((m : Int) ≤ most) = true := decide_eq_true h2
  clear hb0 hlist hT hj hm
  go_enter Tryz.func57, Tryz.ntmps57
  go_wp2_with fail
  refine HL.out.mono ?_
  rintro e w1 ⟨v, rfl, hv, hb⟩
  have HB1 := Lib.hid (HB0.out.trans (hb.mono HB0.out.size))
  obtain ⟨A, c, hvv, hc1, hc2, hst⟩ := hv.strs
  rw [HM.out] at hvv
  subst hvv
  have k1 := join_regrown hv HLC.out HJL.out
  rw [HJ.out] at k1
  have hk1 : WBox w1 w.heap.size ⟨op, fld, t, 0, (A0, m0, c0)⟩ := (hb.block _ (by simp)).trans HK.out
  obtain ⟨x0, x1, x2, x3, x4, xl⟩ := hk1.cells
  have y2 := cell_regrown x2
  have y3 := cell_regrown x3
  obtain ⟨S, hS⟩ : ∃ S, ba t = S := ⟨_, rfl⟩
  rw [hS] at k1 y2
  clear hb hv hst hc1 hc2 hk1 x0 x1 x2 x3 x4 hS
  go_wp2
  refine wp_region_quiet_below (by kernel_rfl) (by kernel_rfl) ?_
  repeat (quiet_step (exact k1 _ _))
  refine wpQuiet_nil ?_
  intro _ hw'
  obtain ⟨⟨dq, osq⟩, hw''⟩ := hw'
  subst hw''
  go_wp2
  go_ret
  exact ⟨rfl, HB1.out.trans ((below_regrown w1 dq osq).mono HB1.out.size)⟩
end Go.Proofs.YtomcdhmcjndioaaGreatDoor
end
