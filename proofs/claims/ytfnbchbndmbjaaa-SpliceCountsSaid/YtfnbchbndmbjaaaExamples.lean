/- The law's fixed examples. -/
import Derived.Test.YtfnbchbndmbjaaaRefApply
import Derived.Test.YtfnbchbndmbjaaaRefDiff
namespace Go.Proofs.Ytfnbchbndmbjaaa
open Go.RowKit
set_option linter.unusedVariables false

theorem ex_diff : diffS [1, 2, 3] [1, 3, 4] = [⟨1, 1, []⟩, ⟨2, 0, [4]⟩] := by
  simp [diffS, align, lcs, Dst.run, Dst.step, Dst.zero, Dst.last, mapLast]
theorem ex_keep : keepS [1, 2, 3] [3, 1, 2] = [1, 2] := by
  simp [keepS, align, lcs, kept]
theorem ex_none : diffS [5] [5] = [] := by
  simp [diffS, align, Dst.run, Dst.step, Dst.zero]
theorem ex_app : app [1, 2, 3] [⟨1, 1, []⟩, ⟨2, 0, [4]⟩] = some [1, 3, 4] := by
  simp [app, app1]
theorem ex_bad : app [1] [⟨1, 1, []⟩] = none := by
  simp [app, app1]

theorem lit_ints {W : World} {k B : Nat} {l : List Int} (n : Nat) (hn : n = l.length) (h : W.heap[k]? = some (.cells (iv l).toArray 3 (0, 0))) (hk : k < B) (hb : I64s l) : Ints W B (some ⟨k, 0, none⟩) n l := by
  subst hn
  refine ⟨rfl, hb, .inr ⟨_, rfl, hk, fun j u hu => ?_⟩⟩
  have e : (⟨k, 0, none⟩ : Addr).add j = ⟨k, j, none⟩ := by unfold Addr.add; split <;> simp_all
  rw [e, cell_of_row W k j _ 3 (0, 0) h]
  simpa using hu
theorem i64s_of {l : List Int} (h : l.all (fun x => decide (-9223372036854775808 ≤ x) && decide (x ≤ 9223372036854775807)) = true) : I64s l := fun x hx => by
  have := List.all_eq_true.1 h x hx
  simpa using this
theorem heap_new {W : World} {o : Obj} {k : Nat} (hk : k = W.heap.size) : (W.alloc o).heap[k]? = some o := by subst hk; exact heap_alloc_new W o
theorem heap_old {W : World} {o x : Obj} {k : Nat} (h : W.heap[k]? = some x) : (W.alloc o).heap[k]? = some x := (Below.heap_alloc W o k (Array.getElem?_eq_some_iff.1 h).1).trans h

/-- A literal of splices. -/
structure Rw where
  s : Spi
  X : Option Addr
  x : Nat
  c : Nat
def rcell (r : Rw) : List Value := [.int .i64 r.s.at_, .int .i64 r.s.drop, .slice r.X r.x r.c]
def rcells (rs : List Rw) : List Value := rs.flatMap rcell
theorem rcells_at {rs : List Rw} {k : Nat} {r : Rw} (h : rs[k]? = some r) : (rcells rs)[k * 3]? = some (.int .i64 r.s.at_) ∧ (rcells rs)[k * 3 + 1]? = some (.int .i64 r.s.drop) ∧ (rcells rs)[k * 3 + 2]? = some (.slice r.X r.x r.c) := by
  induction rs generalizing k with
  | nil => cases h
  | cons q t ih =>
    cases k with
    | zero => simp at h; subst h; simp [rcells, rcell]
    | succ k =>
      have := ih (k := k) (by simpa using h)
      have e : rcells (q :: t) = rcell q ++ rcells t := rfl
      rw [e]
      have hl : (rcell q).length = 3 := rfl
      refine ⟨?_, ?_, ?_⟩
      · rw [List.getElem?_append_right (by rw [hl]; omega), hl, show (k + 1) * 3 - 3 = k * 3 by omega]; exact this.1
      · rw [List.getElem?_append_right (by rw [hl]; omega), hl, show (k + 1) * 3 + 1 - 3 = k * 3 + 1 by omega]; exact this.2.1
      · rw [List.getElem?_append_right (by rw [hl]; omega), hl, show (k + 1) * 3 + 2 - 3 = k * 3 + 2 by omega]; exact this.2.2
def RwOk (W : World) (B : Nat) (r : Rw) : Prop := (-9223372036854775808 ≤ r.s.at_ ∧ r.s.at_ ≤ 9223372036854775807) ∧ (-9223372036854775808 ≤ r.s.drop ∧ r.s.drop ≤ 9223372036854775807) ∧ r.x ≤ r.c ∧ r.c ≤ maxLen ∧ Ints W B r.X r.x r.s.add
theorem spis_lit {W : World} {k B : Nat} (rs : List Rw) (n : Nat) (hn : n = rs.length) (h : W.heap[k]? = some (.cells (rcells rs).toArray 30 (0, 0))) (hk : k < B) (hr : ∀ r ∈ rs, RwOk W B r) : Spis W B (some ⟨k, 0, none⟩) n (rs.map (·.s)) := by
  subst hn
  refine ⟨by simp, fun i hi => ?_⟩
  have hp : rs[i]? = some rs[i] := List.getElem?_eq_getElem hi
  obtain ⟨c1, c2, c3⟩ := rcells_at hp
  obtain ⟨h1, h2, h3, h4, h5⟩ := hr _ (List.getElem_mem hi)
  have hc : ∀ j, W.cell? ((⟨k, 0, none⟩ : Addr).add j) = (rcells rs)[j]? := fun j => by
    have e : (⟨k, 0, none⟩ : Addr).add j = ⟨k, j, none⟩ := by unfold Addr.add; split <;> simp_all
    rw [e, cell_of_row W k j _ 30 (0, 0) h]
    simp
  exact ⟨_, rs[i].s, _, _, _, rfl, hk, by simp [hi], h1, h2, by rw [hc]; exact c1, by rw [hc]; exact c2, by rw [hc]; exact c3, h3, h4, h5⟩

theorem spi_of {ps : List (Spl × Value)} {l : List Spl} (h : ps.map (·.1) = l) : (ps.map fun p => p.1.int) = l.map Spl.int := by rw [← h]; simp
theorem two_below (w : World) (o o' : Obj) : Below w.heap.size w ((w.alloc o).alloc o') := ((Below.refl _ _).alloc (Nat.le_refl _) o).alloc (by simp) o'
theorem two_size (w : World) (o o' : Obj) : ((w.alloc o).alloc o').heap.size = w.heap.size + 2 := by simp

theorem diffS_bound (a b : List Int) : ∀ s ∈ diffS a b, s.at_ ≤ a.length + b.length ∧ s.drop ≤ a.length + b.length ∧ s.add.length ≤ a.length + b.length := by
  intro s hs
  unfold diffS at hs
  by_cases h : 1024 < a.length ∨ 1024 < b.length
  · rw [if_pos h] at hs
    by_cases hab : a = b
    · rw [if_pos hab] at hs; cases hs
    · rw [if_neg hab, List.mem_singleton] at hs; subst hs; exact ⟨Nat.zero_le _, by simp, by simp⟩
  · rw [if_neg h] at hs
    have h1 := (Dst.zero_le (align a b)).2.2.1 s hs
    have h2 := align_len _ a b (Nat.le_refl _)
    omega
theorem diffS_len (a b : List Int) : (diffS a b).length ≤ a.length + b.length + 1 := by
  unfold diffS
  by_cases h : 1024 < a.length ∨ 1024 < b.length
  · rw [if_pos h]; split <;> simp
  · rw [if_neg h]
    have h1 := (Dst.zero_le (align a b)).2.1
    have h2 := align_len _ a b (Nat.le_refl _)
    omega

/-- A result that reads as the splices l. -/
def SplOut (l : List Spl) (w : World) (e : Ending) (w' : World) : Prop := ∃ A c, e = .returned (.slice A l.length c) ∧ l.length ≤ c ∧ c ≤ maxLen ∧ Spis w' w'.heap.size A l.length (l.map Spl.int) ∧ Below w.heap.size w w'
/-- A result that reads as the integers l. -/
def IntOut (l : List Int) (w : World) (e : Ending) (w' : World) : Prop := ∃ A c, e = .returned (.slice A l.length c) ∧ l.length ≤ c ∧ c ≤ maxLen ∧ Ints w' w'.heap.size A l.length l ∧ Below w.heap.size w w'
theorem SplOut.of {a b : List Int} {w w' : World} {e : Ending} (hab : a.length + b.length ≤ 9223372036854775807) (h : ∃ v ps, e = .returned v ∧ OwnPs w' w.heap.size v ps ∧ ps.map (·.1) = diffS a b ∧ Below w.heap.size w w') : SplOut (diffS a b) w e w' := by
  obtain ⟨v, ps, rfl, h1, h2, h3⟩ := h
  have hpl : ps.length = (diffS a b).length := by rw [← h2]; simp
  obtain ⟨A, c, e1, h4, h5, h6⟩ := h1.spis fun p hp => by
    have := diffS_bound a b p.1 (by rw [← h2]; exact List.mem_map_of_mem hp)
    omega
  rw [spi_of h2, hpl] at h6
  rw [hpl] at e1 h4
  exact ⟨A, c, by rw [e1], h4, h5, h6, h3⟩
theorem IntOut.of {l : List Int} {w w' : World} {e : Ending} (h : ∃ v, e = .returned v ∧ OwnInts w' w.heap.size v l ∧ Below w.heap.size w w') : IntOut l w e w' := by
  obtain ⟨v, rfl, h1, h2⟩ := h
  obtain ⟨A, c, e1, h4, h5, h6⟩ := h1.ints
  exact ⟨A, c, by rw [e1], h4, h5, h6, h2⟩
theorem SplOut.from {l : List Spl} {w w1 w' : World} {e : Ending} (h : SplOut l w1 e w') (hb : Below w.heap.size w w1) : SplOut l w e w' := by
  obtain ⟨A, c, h1, h2, h3, h4, h5⟩ := h
  exact ⟨A, c, h1, h2, h3, h4, hb.trans (h5.mono hb.size)⟩
theorem IntOut.from {l : List Int} {w w1 w' : World} {e : Ending} (h : IntOut l w1 e w') (hb : Below w.heap.size w w1) : IntOut l w e w' := by
  obtain ⟨A, c, h1, h2, h3, h4, h5⟩ := h
  exact ⟨A, c, h1, h2, h3, h4, hb.trans (h5.mono hb.size)⟩

theorem diff_lit (w : World) (l m : List Int) (nl nm : Nat) (hl : nl = l.length) (hm : nm = m.length) (bl : I64s l) (bm : I64s m) (sl : nl ≤ 1000) (sm : nm ≤ 1000) :
    Calls Try.prog 15 #[.slice (some ⟨w.heap.size, 0, none⟩) nl nl, .slice (some ⟨w.heap.size + 1, 0, none⟩) nm nm] ((w.alloc (.cells (iv l).toArray 3)).alloc (.cells (iv m).toArray 3)) (SplOut (diffS l m) w) := by
  have hs := two_size w (.cells (iv l).toArray 3) (.cells (iv m).toArray 3)
  have a1 : Ints ((w.alloc (.cells (iv l).toArray 3)).alloc (.cells (iv m).toArray 3)) ((w.alloc (.cells (iv l).toArray 3)).alloc (.cells (iv m).toArray 3)).heap.size (some ⟨w.heap.size, 0, none⟩) nl l := lit_ints nl hl (heap_old (heap_new rfl)) (by omega) bl
  have a2 : Ints ((w.alloc (.cells (iv l).toArray 3)).alloc (.cells (iv m).toArray 3)) ((w.alloc (.cells (iv l).toArray 3)).alloc (.cells (iv m).toArray 3)).heap.size (some ⟨w.heap.size + 1, 0, none⟩) nm m := lit_ints nm hm (heap_new (by simp)) (by omega) bm
  exact (diff_any _ _ nl nm nl nm l m _ a1 a2 (by omega) (by omega) (by omega) (by omega)).mono fun e w' h => (SplOut.of (by omega) h).from (two_below w _ _)
theorem keep_lit (w : World) (l m : List Int) (nl nm : Nat) (hl : nl = l.length) (hm : nm = m.length) (bl : I64s l) (bm : I64s m) (sl : nl ≤ 1000) (sm : nm ≤ 1000) :
    Calls Try.prog 12 #[.slice (some ⟨w.heap.size, 0, none⟩) nl nl, .slice (some ⟨w.heap.size + 1, 0, none⟩) nm nm] ((w.alloc (.cells (iv l).toArray 3)).alloc (.cells (iv m).toArray 3)) (IntOut (keepS l m) w) := by
  have hs := two_size w (.cells (iv l).toArray 3) (.cells (iv m).toArray 3)
  have a1 : Ints ((w.alloc (.cells (iv l).toArray 3)).alloc (.cells (iv m).toArray 3)) ((w.alloc (.cells (iv l).toArray 3)).alloc (.cells (iv m).toArray 3)).heap.size (some ⟨w.heap.size, 0, none⟩) nl l := lit_ints nl hl (heap_old (heap_new rfl)) (by omega) bl
  have a2 : Ints ((w.alloc (.cells (iv l).toArray 3)).alloc (.cells (iv m).toArray 3)) ((w.alloc (.cells (iv l).toArray 3)).alloc (.cells (iv m).toArray 3)).heap.size (some ⟨w.heap.size + 1, 0, none⟩) nm m := lit_ints nm hm (heap_new (by simp)) (by omega) bm
  exact (keepS_any _ _ nl nm nl nm l m _ a1 a2 (by omega) (by omega) (by unfold maxLen; omega) (by unfold maxLen; omega)).mono fun e w' h => (IntOut.of h).from (two_below w _ _)

theorem apply_lit_bad (w : World) : Calls Try.prog 17 #[.slice (some ⟨w.heap.size, 0, none⟩) 1 1, .slice (some ⟨w.heap.size + 1, 0, none⟩) 1 1] ((w.alloc (.cells #[.int .i64 1] 3)).alloc (.cells #[.int .i64 1, .int .i64 1, .slice none 0 0] 30)) fun e w' =>
    (∃ v, e = .returned (.tuple #[v, .bool false])) ∧ Below w.heap.size w w' := by
  have hb := two_below w (.cells #[.int .i64 1] 3) (.cells #[.int .i64 1, .int .i64 1, .slice none 0 0] 30)
  have hs := two_size w (.cells #[.int .i64 1] 3) (.cells #[.int .i64 1, .int .i64 1, .slice none 0 0] 30)
  obtain ⟨W, hW⟩ : ∃ W, (w.alloc (.cells #[.int .i64 1] 3)).alloc (.cells #[.int .i64 1, .int .i64 1, .slice none 0 0] 30) = W := ⟨_, rfl⟩
  have h1 : W.heap[w.heap.size]? = some (.cells (iv [1]).toArray 3 (0, 0)) := by rw [← hW]; exact heap_old (heap_new rfl)
  have h2 : W.heap[w.heap.size + 1]? = some (.cells (rcells [⟨⟨1, 1, []⟩, none, 0, 0⟩]).toArray 30 (0, 0)) := by rw [← hW]; exact heap_new (by simp)
  rw [hW] at hb hs ⊢
  refine (apply_any _ _ 1 1 1 1 [1] [⟨1, 1, []⟩] W (lit_ints 1 rfl h1 (by omega) (i64s_of (by decide)))
    (spis_lit [⟨⟨1, 1, []⟩, none, 0, 0⟩] 1 rfl h2 (by omega) (by intro r hr; rw [List.mem_singleton] at hr; subst hr; exact ⟨by decide, by decide, by decide, Nat.zero_le _, Ints.nil_⟩)) (by omega) (by omega) (by simp)).mono ?_
  rw [ex_bad]
  rintro e w' ⟨v, rfl, _, h3⟩
  exact ⟨⟨v, rfl⟩, hb.trans (h3.mono (by omega))⟩
theorem sameAll_lit (w : World) (A : Option Addr) (c : Nat) (h : Spis w w.heap.size A 2 [⟨1, 1, []⟩, ⟨2, 0, [4]⟩]) :
    Calls Try.prog 14 #[.slice A 2 c, .slice (some ⟨w.heap.size + 1, 0, none⟩) 2 2] ((w.alloc (.cells #[.int .i64 4] 3)).alloc (.cells #[.int .i64 1, .int .i64 1, .slice none 0 0, .int .i64 2, .int .i64 0, .slice (some ⟨w.heap.size, 0, none⟩) 1 1] 30)) fun e w' =>
    e = .returned (.bool true) ∧ Below w.heap.size w w' := by
  have hb := two_below w (.cells #[.int .i64 4] 3) (.cells #[.int .i64 1, .int .i64 1, .slice none 0 0, .int .i64 2, .int .i64 0, .slice (some ⟨w.heap.size, 0, none⟩) 1 1] 30)
  have hs := two_size w (.cells #[.int .i64 4] 3) (.cells #[.int .i64 1, .int .i64 1, .slice none 0 0, .int .i64 2, .int .i64 0, .slice (some ⟨w.heap.size, 0, none⟩) 1 1] 30)
  obtain ⟨W, hW⟩ : ∃ W, (w.alloc (.cells #[.int .i64 4] 3)).alloc (.cells #[.int .i64 1, .int .i64 1, .slice none 0 0, .int .i64 2, .int .i64 0, .slice (some ⟨w.heap.size, 0, none⟩) 1 1] 30) = W := ⟨_, rfl⟩
  have h1 : W.heap[w.heap.size]? = some (.cells (iv [4]).toArray 3 (0, 0)) := by rw [← hW]; exact heap_old (heap_new rfl)
  have h2 : W.heap[w.heap.size + 1]? = some (.cells (rcells [⟨⟨1, 1, []⟩, none, 0, 0⟩, ⟨⟨2, 0, [4]⟩, some ⟨w.heap.size, 0, none⟩, 1, 1⟩]).toArray 30 (0, 0)) := by rw [← hW]; exact heap_new (by simp)
  rw [hW] at hb hs ⊢
  have h4 : Ints W W.heap.size (some ⟨w.heap.size, 0, none⟩) 1 [4] := lit_ints 1 rfl h1 (by omega) (i64s_of (by decide))
  have h3 : Spis W W.heap.size (some ⟨w.heap.size + 1, 0, none⟩) 2 [⟨1, 1, []⟩, ⟨2, 0, [4]⟩] := spis_lit [⟨⟨1, 1, []⟩, none, 0, 0⟩, ⟨⟨2, 0, [4]⟩, some ⟨w.heap.size, 0, none⟩, 1, 1⟩] 2 rfl h2 (by omega) (by
    intro r hr
    simp at hr
    rcases hr with rfl | rfl
    · exact ⟨by decide, by decide, by decide, Nat.zero_le _, Ints.nil_⟩
    · exact ⟨by simp, by simp, Nat.le_refl _, by simp [maxLen], h4⟩)
  refine (sameAll_any _ _ 2 2 c 2 _ _ W ((h.below hb).more (by omega)) h3 (by unfold maxLen; omega)).mono ?_
  rintro e w' ⟨rfl, k, rfl⟩
  exact ⟨by simp, drewBelow hb k⟩
theorem same_lit (w : World) (A : Option Addr) (n c : Nat) (l : List Int) (hn : n = l.length) (hn2 : n ≤ 1000) (hl : I64s l) (h : Ints w w.heap.size A n l) :
    Calls Try.prog 11 #[.slice A n c, .slice (some ⟨w.heap.size, 0, none⟩) n n] (w.alloc (.cells (iv l).toArray 3)) fun e w' => e = .returned (.bool true) ∧ Below w.heap.size w w' := by
  have hb : Below w.heap.size w (w.alloc (.cells (iv l).toArray 3)) := (Below.refl _ _).alloc (Nat.le_refl _) _
  refine (same_any _ _ n n c n l l _ ((h.below hb).more hb.size) (lit_ints n hn (heap_new rfl) (by simp) hl) (by unfold maxLen; omega)).mono ?_
  rintro e w' ⟨rfl, k, rfl⟩
  exact ⟨by simp, drewBelow hb k⟩

set_option maxRecDepth 100000 in
set_option maxHeartbeats 2000000 in
theorem small_any (w : World) : Calls Try.prog 9 #[] w fun e w' => e = .returned (.bool true) ∧ Below w.heap.size w w' := by
  go_enter Try.func9, Try.ntmps9
  go_wp2_with fail
  refine (diff_lit w [1, 2, 3] [1, 3, 4] 3 3 rfl rfl (i64s_of (by decide)) (i64s_of (by decide)) (by omega) (by omega)).mono ?_
  rw [ex_diff]
  rintro e w1 ⟨A, c, rfl, _, _, hsp, hb1⟩
  go_wp2_with fail
  -- Apply([1 2 3], s)
  have hbA := Lib.hid ((Below.refl w1.heap.size w1).alloc (Nat.le_refl _) (.cells #[.int .i64 1, .int .i64 2, .int .i64 3] 3))
  refine (apply_any (some ⟨w1.heap.size, 0, none⟩) A 3 2 3 c [1, 2, 3] [⟨1, 1, []⟩, ⟨2, 0, [4]⟩] _ (lit_ints 3 rfl (heap_new rfl) (by simp) (i64s_of (by decide))) ((hsp.below hbA.out).more (by simp)) (by omega) (by omega) (by simp)).mono ?_
  rw [ex_app]
  rintro e w2 ⟨v2, rfl, hown2, hb2⟩
  obtain ⟨A2, c2, e2, _, _, hi2⟩ := hown2.ints
  replace e2 : v2 = .slice A2 3 c2 := e2
  subst e2
  replace hi2 : Ints w2 w2.heap.size A2 3 [1, 3, 4] := hi2
  have HS2 := Lib.hid (((hsp.below hbA.out).more (by simp : w1.heap.size ≤ (w1.alloc (.cells #[.int .i64 1, .int .i64 2, .int .i64 3] 3)).heap.size)).below hb2)
  have HB2 := Lib.hid (hb1.trans ((hbA.out.mono hb1.size).trans (hb2.mono (by have := hb1.size; simp; omega))))
  have hz2 : w1.heap.size < w2.heap.size := by have := hb2.size; simp at this; omega
  have HS2' := Lib.hid (HS2.out.more hb2.size)
  clear hown2 hb2 hsp HS2
  go_wp2_with fail
  -- Apply([1], {1 1 nil})
  refine (apply_lit_bad w2).mono ?_
  rintro e w3 ⟨⟨v3, rfl⟩, hb3⟩
  have HB3 := Lib.hid hb3
  have HS3 := Lib.hid (show Spis w3 w3.heap.size A 2 [⟨1, 1, []⟩, ⟨2, 0, [4]⟩] from (HS2'.out.below hb3).more hb3.size)
  have HI3 := Lib.hid (show Ints w3 w3.heap.size A2 3 [1, 3, 4] from (hi2.below hb3).more hb3.size)
  clear hb3 hi2 HS2'
  go_wp2_with fail
  refine (sameAll_lit w3 A c HS3.out).mono ?_
  rintro e w4 ⟨rfl, hb4⟩
  have HB4 := Lib.hid hb4
  have HI4 := Lib.hid ((HI3.out.below hb4).more hb4.size)
  clear hb4
  go_wp2_with fail
  refine (same_lit w4 A2 3 c2 [1, 3, 4] rfl (by omega) (i64s_of (by decide)) HI4.out).mono ?_
  rintro e w5 ⟨rfl, hb5⟩
  have HB5 := Lib.hid hb5
  clear hb5
  go_wp2_with fail
  refine (keep_lit w5 [1, 2, 3] [3, 1, 2] 3 3 rfl rfl (i64s_of (by decide)) (i64s_of (by decide)) (by omega) (by omega)).mono ?_
  rw [ex_keep]
  rintro e w6 ⟨A6, c6, rfl, _, _, hi6, hb6⟩
  have HB6 := Lib.hid hb6
  clear hb6
  go_wp2_with fail
  refine (same_lit w6 A6 2 c6 [1, 2] rfl (by omega) (i64s_of (by decide)) hi6).mono ?_
  rintro e w7 ⟨rfl, hb7⟩
  have HB7 := Lib.hid hb7
  clear hb7
  go_wp2_with fail
  refine (diff_lit w7 [5] [5] 1 1 rfl rfl (i64s_of (by decide)) (i64s_of (by decide)) (by omega) (by omega)).mono ?_
  rw [ex_none]
  rintro e w8 ⟨A8, c8, rfl, _, _, _, hb8⟩
  have HB8 := Lib.hid hb8
  clear hb8
  go_wp2
  go_ret
  refine ⟨rfl, ?_⟩
  have b3 := HB2.out.trans (HB3.out.mono HB2.out.size)
  have b4 := b3.trans (HB4.out.mono b3.size)
  have b5 := b4.trans (HB5.out.mono b4.size)
  have b6 := b5.trans (HB6.out.mono b5.size)
  have b7 := b6.trans (HB7.out.mono b6.size)
  exact b7.trans (HB8.out.mono b7.size)
end Go.Proofs.Ytfnbchbndmbjaaa
