/- Contract of tied: a node joins all that share a tie with it. -/
import Derived.Test.YtlobiebmaheflaaAlone
import Derived.Deep.RegionHeld3
import Derived.Deep.DeepCutAuto
namespace Go.Proofs.Ytlobiebmaheflaa
open Go.RowKit
set_option linter.unusedVariables false

/-- n bears the ties of a list besides. -/
def effAll (eff : Nat → Tie → Prop) (n : Nat) (TL : List Tie) (g : Nat) (k : Tie) : Prop := eff g k ∨ (g = n ∧ k ∈ TL)
/-- A whole set: memory and forest. -/
structure Whole (w : World) (tag : Nat → Tag) (hd N T : Nat) (nm : Int → Option Nat) (live : Nat → Prop) (num : Nat → Int) (tm : Nat → List Tie) (eff : Nat → Tie → Prop) (up root dep : Nat → Nat) (grp : Nat → List Nat) (tl : Tie → List Nat) (c : Nat) : Prop where
  mem : Mem w tag hd N T nm live (fun g => up g = g) num tm up grp tl c
  knit : Knit live eff up root dep grp tl
/-- No more than m nodes. -/
def Few (live : Nat → Prop) (m : Nat) : Prop := ∃ ll : List Nat, (∀ g, live g → g ∈ ll) ∧ ll.length ≤ m
theorem nodup_le {l ll : List Nat} (h : l.Nodup) (hs : ∀ x, x ∈ l → x ∈ ll) : l.length ≤ ll.length := by
  induction l generalizing ll with
  | nil => simp
  | cons a r ih =>
    obtain ⟨h1, h2⟩ := List.nodup_cons.1 h
    have ha := hs a (by simp)
    have := ih (ll := ll.erase a) h2 fun x hx => (List.mem_erase_of_ne (fun e : x = a => h1 (by rw [← e]; exact hx))).2 (hs x (by simp [hx]))
    rw [List.length_erase_of_mem ha] at this
    have : 0 < ll.length := List.length_pos_of_mem ha
    simp; omega

def TiedPost (w : World) (tag : Nat → Tag) (hd N T : Nat) (nm : Int → Option Nat) (live : Nat → Prop) (num : Nat → Int) (tm : Nat → List Tie) (eff : Nat → Tie → Prop) (c n : Nat) (e : Ending) (w' : World) : Prop :=
  e = .returned (.tuple #[]) ∧ ∃ tag' up' root' dep' grp' tl', Whole w' tag' hd N T nm live num tm (effAll eff n (tm n)) up' root' dep' grp' tl' (c + (tm n).length) ∧ Off (Mut tag) w w' ∧ Grows w tag tag'
def TiedRel (w : World) (tag : Nat → Tag) (hd N T : Nat) (nm : Int → Option Nat) (live : Nat → Prop) (num : Nat → Int) (tm : Nat → List Tie) (eff : Nat → Tie → Prop) (c n j : Nat) (w' : World) : Prop :=
  ∃ tag' up' root' dep' grp' tl', Whole w' tag' hd N T nm live num tm (effAll eff n ((tm n).take j)) up' root' dep' grp' tl' (c + j) ∧ Off (Mut tag) w w' ∧ Grows w tag tag'

/-- In the midst of a round: n has joined; the tie k is still to be noted. B: the block of k. -/
def TiedMid (w : World) (tag : Nat → Tag) (hd N T : Nat) (nm : Int → Option Nat) (live : Nat → Prop) (num : Nat → Int) (tm : Nat → List Tie) (eff : Nat → Tie → Prop) (c n j B : Nat) (k : Tie) (w' : World) : Prop :=
  ∃ tag' up' root' dep' grp' tl', Mem w' tag' hd N T nm live (fun g => up' g = g) num tm up' grp' tl' (c + j) ∧ Knit live (effAll eff n ((tm n).take (j + 1))) up' root' dep' grp' (upd tl' k (tl' k ++ [n])) ∧ (tl' k).length ≤ 1000000 ∧
    w'.heap[B]? = some (.cells #[.string k.1, .string k.2] 72 (0, 0)) ∧ tag' B = tOut ∧ Off (Mut tag) w w' ∧ Grows w tag tag'

section
variable {tag : Nat → Tag} {hd N T : Nat} {nm : Int → Option Nat} {live : Nat → Prop} {num : Nat → Int} {tm : Nat → List Tie} {eff : Nat → Tie → Prop} {up root dep : Nat → Nat} {grp : Nat → List Nat} {tl : Tie → List Nat} {c : Nat}
/-- The cells of a row of ties. -/
theorem TieRow.at_ {w : World} {t : Tag} {v : Value} {l : List Tie} (h : TieRow w tag t v l) : ∃ A cap, v = .slice A l.length cap ∧ l.length ≤ cap ∧ cap ≤ maxLen ∧ ∀ j (hj : j < l.length), ∃ g, A = some ⟨g, 0, none⟩ ∧ tag g = t ∧ g < w.heap.size ∧ w.cell? ⟨g, j * 2, none⟩ = some (.string l[j].1) ∧ w.cell? ⟨g, j * 2 + 1, none⟩ = some (.string l[j].2) := by
  have hlen : ∀ l : List Tie, (l.flatMap tieCells).length = l.length * 2 := fun l => by induction l with | nil => rfl | cons a r ih => simp [tieCells] at ih ⊢; omega
  have hget : ∀ (l : List Tie) j (hj : j < l.length), (l.flatMap tieCells)[j * 2]? = some (.string l[j].1) ∧ (l.flatMap tieCells)[j * 2 + 1]? = some (.string l[j].2) := fun l => by
    induction l with
    | nil => intro j hj; simp at hj
    | cons a r ih =>
      intro j hj
      cases j with
      | zero => simp [tieCells]
      | succ j =>
        have := ih j (by simpa using hj)
        have e1 : (j + 1) * 2 = j * 2 + 1 + 1 := by omega
        simp only [List.flatMap_cons, tieCells, List.cons_append, List.nil_append, e1, List.getElem?_cons_succ, List.getElem_cons_succ]
        exact this
  obtain ⟨h1, h2⟩ := h
  rcases h1.2 with ⟨rfl, h0⟩ | ⟨g, cap, cur, rfl, hb, hg, q1, q2, q3⟩
  · exact ⟨none, 0, by rw [h0], by omega, by simp, fun j hj => by omega⟩
  · refine ⟨_, cap, rfl, q1, q2, fun j hj => ⟨g, rfl, h2 g rfl, heap_lt hg, ?_, ?_⟩⟩
    · have := h1.cells (g := g) rfl (j * 2) _ (hget l j hj).1
      by_cases e : j = 0
      · subst e; simpa [Addr.add] using this
      · have e2 : j * 2 ≠ 0 := by omega
        simpa [Addr.add, e2, e] using this
    · have := h1.cells (g := g) rfl (j * 2 + 1) _ (hget l j hj).2
      simpa [Addr.add] using this
theorem PtrRow.at_ {w : World} {t : Tag} {v : Value} {l : List Nat} (h : PtrRow w tag t v l) : ∃ A cap, v = .slice A l.length cap ∧ l.length ≤ cap ∧ cap ≤ maxLen ∧ ∀ j (hj : j < l.length), ∃ g, A = some ⟨g, 0, none⟩ ∧ tag g = t ∧ g < w.heap.size ∧ w.cell? ⟨g, j, none⟩ = some (ptr l[j]) := by
  obtain ⟨h1, h2⟩ := h
  rcases h1.2 with ⟨rfl, h0⟩ | ⟨g, cap, cur, rfl, hb, hg, q1, q2, q3⟩
  · exact ⟨none, 0, by rw [h0], by omega, by simp, fun j hj => by omega⟩
  · refine ⟨_, cap, rfl, q1, q2, fun j hj => ⟨g, rfl, h2 g rfl, heap_lt hg, ?_⟩⟩
    have := h1.cells (g := g) rfl j (ptr l[j]) (by simp [hj])
    by_cases e : j = 0
    · subst e; simpa [Addr.add] using this
    · simpa [Addr.add, e] using this

theorem effAll_succ {eff : Nat → Tie → Prop} {n : Nat} {TL : List Tie} {j : Nat} (hj : j < TL.length) {k : Tie} (hk : TL[j] = k) (g : Nat) (k' : Tie) : effAdd (effAll eff n (TL.take j)) n k g k' ↔ effAll eff n (TL.take (j + 1)) g k' := by
  unfold effAdd effAll
  rw [List.take_succ_eq_append_getElem hj, hk]
  simp only [List.mem_append, List.mem_singleton]
  constructor
  · rintro ((h | ⟨h1, h2⟩) | ⟨h1, h2⟩)
    · exact .inl h
    · exact .inr ⟨h1, .inl h2⟩
    · exact .inr ⟨h1, .inr h2⟩
  · rintro (h | ⟨h1, h2 | h2⟩)
    · exact .inl (.inl h)
    · exact .inl (.inr ⟨h1, h2⟩)
    · exact .inr ⟨h1, h2⟩
theorem not_yet {eff : Nat → Tie → Prop} {n : Nat} {TL : List Tie} {j : Nat} (hj : j < TL.length) {k : Tie} (hk : TL[j] = k) (hno : ¬ eff n k) (hnd : TL.Nodup) : ¬ effAll eff n (TL.take j) n k := by
  rintro (h | ⟨-, h⟩)
  · exact hno h
  · obtain ⟨i, hi, e⟩ := List.getElem_of_mem h
    have hi' : i < j := by simp at hi; omega
    rw [List.getElem_take] at e
    have := (List.pairwise_iff_getElem.1 (List.nodup_iff_pairwise_ne.1 hnd)) i j (by omega) hj hi'
    exact this (e.trans hk.symm)
theorem Few.le {live : Nat → Prop} {m : Nat} (h : Few live m) {l : List Nat} (hn : l.Nodup) (hl : ∀ g, g ∈ l → live g) : l.length ≤ m := by
  obtain ⟨ll, h1, h2⟩ := h
  exact Nat.le_trans (nodup_le hn fun x hx => h1 x (hl x hx)) h2

/-- The tie is noted: what the round leaves. -/
theorem note_end {wc X v1 w3 w4 : World} {n j g3 cap3 : Nat} {k : Tie} {tv2 : Tie → Value} (hM : Mem wc tag hd N T nm live (fun g => up g = g) num tm up grp tl (c + j)) (ht1 : TiesMap wc T tv2 (c + j)) (ht2 : ∀ k, TieFits k → PtrRow wc tag (tTie k) (tv2 k) (tl k)) (hk : TieFits k)
    (hX : X = (wc.alloc (.cells #[.pointer (some ⟨n, 0, none⟩)] 59)).drew) (g1 : X.grownBy v1 (some T)) (s1 : v1.heap.size = X.heap.size) (g3' : v1.grownBy w3 (tv2 k).ownBlock)
    (hown : w3.ownsRow 0 59 1 (.slice (some ⟨g3, 0, none⟩) ((tl k).length + 1) cap3) ((tl k).length + 1) ((tl k).map ptr ++ [ptr n])) (hat : (tv2 k).ownBlock = some g3 ∨ g3 = v1.heap.size) (g4 : w3.grownBy w4 (some T)) (s4 : w4.heap.size = w3.heap.size)
    (hT : TiesMap w4 T (upd tv2 k (.slice (some ⟨g3, 0, none⟩) ((tl k).length + 1) cap3)) (c + j + 1)) :
    ∃ tag', Mem w4 tag' hd N T nm live (fun g => up g = g) num tm up grp (upd tl k (tl k ++ [n])) (c + (j + 1)) ∧ Off (Mut tag) wc w4 ∧ Grows wc tag tag' := by
  have sX : X.heap.size = wc.heap.size + 1 := by rw [hX]; simp
  have hOX : Off (fun b => b = T ∨ tag b = tTie k) wc X := by rw [hX]; exact ((Off.refl _ _).alloc _).drew
  have hO1 := hOX.grown g1 (fun b e => .inl (.inl (by injection e with e; exact e.symm)))
  have hO3 := hO1.grown g3' (fun b e => .inl (.inr ((ht2 k hk).2 b e)))
  have hO4 := hO3.grown g4 (fun b e => .inl (.inl (by injection e with e; exact e.symm)))
  have hTl : T < w3.heap.size := by have := ht1.lt; have := hO3.size; omega
  have hgT : g3 ≠ T := by
    rintro rfl
    rcases hat with h1 | h1
    · have := (ht2 k hk).2 _ h1; rw [hM.tagT] at this; simp [tTies, tTie] at this
    · have := ht1.lt; omega
  have hag : ∀ g, (Value.slice (some ⟨g3, 0, none⟩) ((tl k).length + 1) cap3).ownBlock = some g → tag g = tTie k ∨ wc.heap.size ≤ g := fun g e => by
    simp [Value.ownBlock] at e
    subst e
    rcases hat with h1 | h1
    · exact .inl ((ht2 k hk).2 _ h1)
    · right; omega
  have hM' := hM.turnTies ht1 ht2 (k := k) (v := .slice (some ⟨g3, 0, none⟩) ((tl k).length + 1) cap3) (l := tl k ++ [n]) hO4 hT (by omega) (by
    rw [List.length_append, List.map_append]
    exact ownsRow_block hown fun b e => g4.block b (hown.lt b e).2 (fun e2 => by simp [Value.ownBlock] at e; injection e2 with e2; exact hgT (e.trans e2))) hag
  refine ⟨_, hM', hO4.mono fun b _ hb => ?_, fun b hb => ?_⟩
  · rcases hb with rfl | hb
    · exact ⟨by rw [hM.tagT]; simp [tTies, tOut], by rw [hM.tagT]; simp [tTies]⟩
    · exact ⟨by rw [hb]; simp [tTie, tOut], by rw [hb]; simp [tTie]⟩
  · unfold Mut
    dsimp only
    by_cases e : (Value.slice (some ⟨g3, 0, none⟩) ((tl k).length + 1) cap3).ownBlock = some b
    · rw [if_pos e]
      rcases hag b e with h1 | h1
      · rw [h1]; exact ⟨id, id⟩
      · omega
    · rw [if_neg e]; exact ⟨id, id⟩

set_option maxRecDepth 100000 in
set_option maxHeartbeats 1000000 in
theorem tied_any (n : Nat) (w : World) (h : Whole w tag hd N T nm live num tm eff up root dep grp tl c) (hn : live n) (hfit : ∀ k, k ∈ tm n → TieFits k) (hno : ∀ k, k ∈ tm n → ¬ eff n k) (hnd : (tm n).Nodup) (hfew : Few live 1000000) (hc : c + (tm n).length < 1000000000) :
    Calls Try.prog 35 #[.pointer (some ⟨hd, 0, none⟩), .pointer (some ⟨n, 0, none⟩)] w (TiedPost w tag hd N T nm live num tm eff c n) := by
  obtain ⟨tvv, gvv, -, c1, -, -, fr, htr, -⟩ := h.mem.cells hn
  obtain ⟨A, cap, rfl, hcap, hcapm, hat⟩ := htr.at_
  obtain ⟨m, hm⟩ : ∃ m, (tm n).length = m := ⟨_, rfl⟩
  rw [hm] at c1 hcap hc
  have hcapm' : cap ≤ 9223372036854775807 := by simpa only [maxLen] using hcapm
  have hR : TiedRel w tag hd N T nm live num tm eff c n 0 w := ⟨tag, up, root, dep, grp, tl, ⟨h.mem, h.knit.congr (fun _ => Iff.rfl) fun g k _ => by simp [effAll]⟩, Off.refl _ _, Grows.refl _ _⟩
  have HR := Lib.hid hR
  have HH := Lib.hid h
  have HN := Lib.hid hn
  have HFIT := Lib.hid hfit
  have HNO := Lib.hid hno
  have HND := Lib.hid hnd
  have HFEW := Lib.hid hfew
  have HM := Lib.hid hm
  have HAT := Lib.hid hat
  clear hR h hn hfit hno hnd hfew hm hat fr htr hcapm
  go_enter Try.func35, Try.ntmps35
  go_wp2
  go_loopw [12] (fun i wr => ∃ j : Nat, j ≤ m ∧ i = .int .i64 j ∧ Hid (TiedRel w tag hd N T nm live num tm eff c n j wr)) (fun i _ => m - (intOf i).toNat)
  case atStart => exact ⟨0, Nat.zero_le _, rfl, HR⟩
  case round =>
    clear HR
    obtain ⟨j, hj, rfl, hR⟩ := hrel
    by_cases hlt : j < m
    · have hjl : j < (tm n).length := by rw [HM.out]; exact hlt
      obtain ⟨g, rfl, htg, hgl, d0, d1⟩ := HAT.out j hjl
      obtain ⟨k, hk⟩ : ∃ k, (tm n)[j] = k := ⟨_, rfl⟩
      have HK := Lib.hid hk
      rw [hk] at d0 d1
      have hkm : k ∈ tm n := hk ▸ List.getElem_mem hjl
      obtain ⟨tag1, up1, root1, dep1, grp1, tl1, hW1, hO1, hG1⟩ := hR.out
      have hgb : wr.heap[g]? = w.heap[g]? := hO1.block g hgl (by unfold Mut; rw [htg]; simp [tOwn])
      have k0 := (World.cell?_of_block (a := ⟨g, j * 2, none⟩) hgb).trans d0
      have k1 := (World.cell?_of_block (a := ⟨g, j * 2 + 1, none⟩) hgb).trans d1
      have hgr : g < wr.heap.size := Nat.lt_of_lt_of_le hgl hO1.size
      have hh := hW1.mem.hdr
      have hhl : hd < wr.heap.size := heap_lt hh
      have kh : wr.cell? ⟨hd, 1, none⟩ = some (.map (some T)) := by simp [World.cell?, hh]
      obtain ⟨tv1, ht1, ht2⟩ := hW1.mem.ties
      have hp := ht2 k (HFIT.out k hkm)
      obtain ⟨A, cl, htv, hcl1, hcl2, hal⟩ := hp.at_
      have hlook : ∀ nq, (Instr.lookup 50 (.map (some T)) (.agg #[.string k.1, .string k.2]) false).run Try.prog ((wr.alloc (.cells #[.string k.1, .string k.2] 72)).drewN nq) = .ok (tv1 k) ((wr.alloc (.cells #[.string k.1, .string k.2] 72)).drewN nq) := fun nq => by
        have h1 : TiesMap ((wr.alloc (.cells #[.string k.1, .string k.2] 72)).drewN nq) T tv1 (c + j) := ht1.keep ((MapKept.heap_alloc wr _).2 T ht1.lt)
        exact h1.look (HFIT.out k hkm)
      rw [htv] at hlook
      have HO1 := Lib.hid hO1
      have HG1 := Lib.hid hG1
      have HW1 := Lib.hid hW1
      have HT1 := Lib.hid ht1
      have HT2 := Lib.hid ht2
      have HTV := Lib.hid htv
      have HKM := Lib.hid hkm
      have HAL := Lib.hid hal
      have HTG := Lib.hid htg
      clear hR hO1 hG1 hW1 ht1 ht2 htv hkm hal htg hk d0 d1 hgb hh hp
      obtain ⟨ln, hln⟩ : ∃ ln, (tl1 k).length = ln := ⟨_, rfl⟩
      rw [hln] at hlook hcl1
      have HLN := Lib.hid hln
      clear hln
      have hj2 : (j : Int) < m := by omega
      go_wp2
      go_quiet (fail)
      clear hlook
      have hB : ((wr.alloc (.cells #[.string k.1, .string k.2] 72)).drewN nq).heap[wr.heap.size]? = some (.cells #[.string k.1, .string k.2] 72 (0, 0)) := (MapKept.heap_alloc wr _).1
      have hoW : Off (fun _ => False) wr ((wr.alloc (.cells #[.string k.1, .string k.2] 72)).drewN nq) := ((Off.refl _ _).alloc _).drewN nq
      obtain ⟨W, hWW⟩ : ∃ W, W = (wr.alloc (.cells #[.string k.1, .string k.2] 72)).drewN nq := ⟨_, rfl⟩
      obtain ⟨B, hBB⟩ : ∃ B, B = wr.heap.size := ⟨_, rfl⟩
      rw [← hWW, ← hBB] at hB
      rw [← hWW] at hoW
      rw [← hWW, ← hBB]
      have HBB := Lib.hid hB
      have HBS := Lib.hid hBB
      have HOW := Lib.hid hoW
      clear hB hWW hBB hoW k0 k1 kh
      go_upto_if 24 with (fail)
      go_cut [] (fun wc => Hid (TiedMid w tag hd N T nm live num tm eff c n j B k wc))
      case first =>
        by_cases hl0 : ln = 0
        · have HL0 := Lib.hid hl0
          have hd0 : decide (0 < ln) = false := by simp; omega
          have hd1 : decide ((0 : Int) < ln) = false := by simp; omega
          have hl1 : ln ≤ 0 := by omega
          clear hl0
          go_wp2
          go_meet
          case rel =>
            have hnil : tl1 k = [] := List.eq_nil_of_length_eq_zero (HLN.out.trans HL0.out)
            have hk := not_yet hjl HK.out (HNO.out k HKM.out) HND.out
            exact ⟨tag1, up1, root1, dep1, grp1, tl1, HW1.out.mem.off HOW.out fun _ h => h.elim, (HW1.out.knit.tie0 HN.out hk hnil).congr (fun _ => Iff.rfl) (fun g k' _ => effAll_succ hjl HK.out g k'), by rw [hnil]; simp, HBB.out, by rw [HBS.out]; exact HW1.out.mem.fresh _ (Nat.le_refl _), HO1.out.andThen HOW.out (fun _ _ h => h.elim), HG1.out⟩
        · have hl1 : 0 < ln := by omega
          have hd0 : decide (0 < ln) = true := by simp; omega
          clear hl0
          obtain ⟨g2, rfl, htg2, hg2, c0⟩ := HAL.out 0 (by rw [HLN.out]; exact hl1)
          have hpm : (tl1 k)[0]'(by rw [HLN.out]; exact hl1) ∈ tl1 k := List.getElem_mem _
          obtain ⟨p, hp⟩ : ∃ p, (tl1 k)[0]'(by rw [HLN.out]; exact hl1) = p := ⟨_, rfl⟩
          rw [hp] at c0 hpm
          have c0' : W.cell? ⟨g2, 0, none⟩ = some (.pointer (some ⟨p, 0, none⟩)) := (World.cell?_of_block (HOW.out.block g2 hg2 (fun h => h))).trans c0
          have HPM := Lib.hid hpm
          clear c0 hpm hp htg2
          go_wp2_with fail
          refine (join_any p n W (HW1.out.mem.off HOW.out fun _ h => h.elim) HW1.out.knit.fst ((HW1.out.knit.tlM k p).1 HPM.out).1 HN.out (fun y _ e => e) (fun y hy e => HFEW.out.le (HW1.out.knit.fst.grpN y hy e) fun z hz => ((HW1.out.knit.fst.grpM y hy e z).1 hz).1)).mono ?_
          rintro e w2 ⟨rfl, tag2, up2, root2, dep2, grp2, hM2, hF2, hMg2, hO2, hG2⟩
          have HM2 := Lib.hid hM2
          have HF2 := Lib.hid hF2
          have HMG2 := Lib.hid hMg2
          have HO2 := Lib.hid hO2
          have HG2 := Lib.hid hG2
          clear hM2 hF2 hMg2 hO2 hG2
          go_wp2
          go_meet
          case rel =>
            have hk := not_yet hjl HK.out (HNO.out k HKM.out) HND.out
            have hout : tag1 B = tOut := by rw [HBS.out]; exact HW1.out.mem.fresh _ (Nat.le_refl _)
            have hBW : B < W.heap.size := heap_lt HBB.out
            refine ⟨tag2, up2, root2, dep2, grp2, tl1, HM2.out, (HW1.out.knit.tie HN.out hk HPM.out HF2.out HMG2.out).congr (fun _ => Iff.rfl) (fun g k' _ => effAll_succ hjl HK.out g k'), ?_, ?_, (HG2.out B hBW).1 hout, (HO1.out.andThen HOW.out (fun _ _ h => h.elim)).grows HO2.out HG1.out, HG1.out.trans (fun b hb => HG2.out b (Nat.lt_of_lt_of_le hb HOW.out.size)) HO1.out.size⟩
            · exact HFEW.out.le (HW1.out.knit.tlN k) fun z hz => ((HW1.out.knit.tlM k z).1 hz).1
            · exact (HO2.out.block B hBW (fun h => h.1 hout)).trans HBB.out
      case rest =>
        clear HO1 HG1 HW1 HT1 HT2 HTV HAL HLN HBB HBS HOW
        obtain ⟨tag2, up2, root2, dep2, grp2, tl2, hM2, hK2, hl2, hB2, hT2, hO2, hG2⟩ := hcut.out
        have hh := hM2.hdr
        have kh : wc.cell? ⟨hd, 1, none⟩ = some (.map (some T)) := by simp [World.cell?, hh]
        have kB0 : wc.cell? ⟨B, 0, none⟩ = some (.string k.1) := by simp [World.cell?, hB2]
        have kB1 : wc.cell? ⟨B, 1, none⟩ = some (.string k.2) := by simp [World.cell?, hB2]
        have hhl := heap_lt hh
        have hBl := heap_lt hB2
        obtain ⟨tv2, ht1, ht2⟩ := hM2.ties
        have hrow := ht2 k (HFIT.out k HKM.out)
        obtain ⟨X, hX⟩ : ∃ X, X = (wc.alloc (.cells #[.pointer (some ⟨n, 0, none⟩)] 59)).drew := ⟨_, rfl⟩
        have tX : TiesMap X T tv2 (c + j) := ht1.keep (by rw [hX]; exact (MapKept.heap_alloc wc _).2 T ht1.lt)
        obtain ⟨st, v1, o1, hE, hg1, hs1, hb1, hst⟩ := tX.entry (by simp only [maxLen]; omega) (HFIT.out k HKM.out)
        obtain ⟨A, cl, htv, hcl1, hcl2, hal⟩ := hrow.at_
        rw [htv] at hE
        unfold tieVal goInt at hE
        have hsX : X.heap.size = wc.heap.size + 1 := by rw [hX]; simp
        have hTn : T ≠ wc.heap.size := fun e => by have := ht1.lt; omega
        have hnb : X.heap[wc.heap.size]? = some (.cells #[.pointer (some ⟨n, 0, none⟩)] 59 (0, 0)) := by rw [hX]; exact (MapKept.heap_alloc wc _).1
        have hnb1 := (hg1.block _ (by omega) (fun e => hTn (by injection e with e; exact e.symm))).trans hnb
        have hown1 : v1.ownsRow 0 59 1 (tv2 k) (tl2 k).length ((tl2 k).map ptr) := ownsRow_block (ownsRow_block hrow.1 (w' := X) fun b e => by rw [hX]; exact (MapKept.heap_alloc wc _).2 b (hrow.1.lt b e).2) fun b e => hg1.block b (by have := (hrow.1.lt b e).2; omega) (fun e2 => by
          injection e2 with e2
          have h1 := hrow.2 b e
          rw [e2, hM2.tagT] at h1; simp [tTies, tTie] at h1)
        rw [htv] at hown1
        have HOWN1 := Lib.hid hown1
        have HNB := Lib.hid (World.news_of_block hnb1)
        have HTL : Hid (∀ w3, v1.grownBy w3 (tv2 k).ownBlock → w3.heap[T]? = some o1) := fun w3 h => (h.block T (by have := ht1.lt; omega) (fun e => by
          have h1 := hrow.2 T e.symm
          rw [hM2.tagT] at h1; simp [tTies, tTie] at h1)).trans hb1
        have hbl : (tl2 k).length + 1 ≤ maxLen ∧ ((tl2 k).length + 1) * 8 ≤ 140737488355328 := by simp only [maxLen]; omega
        have HBL := Lib.hid hbl
        obtain ⟨i0, hi, hz0, hz1, hz2⟩ := info_parts ptr_info
        rw [hX] at hE
        have HX := Lib.hid hX
        have HM2 := Lib.hid hM2
        have HK2 := Lib.hid hK2
        have HO2 := Lib.hid hO2
        have HG2 := Lib.hid hG2
        have HST := Lib.hid hst
        have HTV := Lib.hid htv
        have HS1 := Lib.hid hs1
        have HGR1 := Lib.hid hg1
        have HTT1 := Lib.hid ht1
        have HTT2 := Lib.hid ht2
        clear hcut hM2 hK2 hB2 hT2 hO2 hG2 hrow hst hh htv hs1 hb1 hal ht1 ht2 hg1 hX hsX hTn hnb hnb1 hown1 tX hbl
        go_wp2
        go_region_law ((refine step_append_lies _ (by rfl) _ _ _ (by rfl) 0 59 i0 (.pointer none) 1 8 Try.underlying62 hi hz0 hz1 hz2 rfl (by omega) (.slice A (tl2 k).length cl) (tl2 k).length _ (by rfl) (by exact HOWN1.out) ⟨wc.heap.size, 0, none⟩ 1 1 [ptr n] (by rfl) rfl (by exact HNB.out) (by intro u hu; simp at hu; subst hu; rfl) (by omega) HBL.out.1 HBL.out.2 (Nat.zero_le _) v1.heap.size rfl ?_; intro g3 cap3 w3 hown3 hgrow hat3 hlt3; have hgr3 := hgrow; rw [← HTV.out] at hgr3; obtain ⟨w4, hr4, hg4, hs4, hT4⟩ := HST.out w3 (.slice (some ⟨g3, 0, none⟩) ((tl2 k).length + 1) cap3) (HTL.out w3 hgr3); unfold goInt at hr4; have G1 := Lib.hid hown3; have G2 := Lib.hid hgr3; have G3 := Lib.hid hat3; have G4 := Lib.hid hg4; have G5 := Lib.hid hs4; have G6 := Lib.hid hT4; clear hown3 hgrow hat3 hlt3 hgr3 hg4 hs4 hT4))
        all_goals
          go_wp2
          go_roundw
          case rel =>
            obtain ⟨tag3, h1, h2, h3⟩ := note_end HM2.out HTT1.out HTT2.out (HFIT.out k HKM.out) HX.out HGR1.out HS1.out G2.out G1.out (by rw [HTV.out]; exact G3.out) G4.out G5.out G6.out
            exact ⟨j + 1, by omega, by go_num, tag3, up2, root2, dep2, grp2, _, ⟨h1, HK2.out⟩, HO2.out.grows h2 HG2.out, HG2.out.trans h3 HO2.out.size⟩
          case measure => simp [intOf] <;> omega
    · obtain rfl : j = m := by omega
      go_wp2
      go_end0
      obtain ⟨tag', up', root', dep', grp', tl', hW, hO, hG⟩ := hR.out
      refine ⟨rfl, tag', up', root', dep', grp', tl', ?_, hO, hG⟩
      rw [HM.out]
      refine ⟨hW.mem, hW.knit.congr (fun _ => Iff.rfl) fun g k _ => ?_⟩
      rw [← HM.out, List.take_length]
end
end Go.Proofs.Ytlobiebmaheflaa
