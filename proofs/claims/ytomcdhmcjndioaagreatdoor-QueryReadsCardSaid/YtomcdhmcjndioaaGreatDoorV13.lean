/- The reference of layer 37: size and day (printed by gen_rmom.py). Layer 37, plain: a date's three pieces. Layer 37: the contract of moment. -/
import Derived.BigQuiet
import Derived.Deep.QuietTactic
import Derived.Laws.StructEq
import Derived.Laws.Tables
import Derived.Laws.Cover2
import Derived.Test.YtomcdhmcjndioaaGreatDoorV12
import Derived.Test.YtomcdhmcjndioaaGreatDoorV04
import Derived.Test.YtomcdhmcjndioaaGreatDoorV06
import Derived.Test.YtomcdhmcjndioaaGreatDoorV05
section
namespace Go.Proofs.YtomcdhmcjndioaaGreatDoor
open Go.RowKit
set_option linter.unusedVariables false

/-- A moment handed back: the value counts where there is one. -/
def MoPost (w : World) (o : Option Int) (e : Ending) (w' : World) : Prop := ∃ v : Int, e = .returned (.tuple #[.int .i64 v, .bool o.isSome]) ∧ Below w.heap.size w w' ∧ (∀ n, o = some n → v = n) ∧ -1000000000000 ≤ v ∧ v ≤ 1000000000000
theorem mo_end {w w' : World} {o : Option Int} {v : Int} {b : Bool} (hb : b = o.isSome) (hv : ∀ n, o = some n → v = n) (h1 : -1000000000000 ≤ v) (h2 : v ≤ 1000000000000) (hw : Below w.heap.size w w') : MoPost w o (.returned (.tuple #[.int .i64 v, .bool b])) w' := by
  subst hb
  exact ⟨v, rfl, hw, hv, h1, h2⟩
/-- The digits ahead of k, but at 4 and 7. -/
def DigRel (l : List UInt8) (k : Nat) : Prop := ∀ j, j < k → j ≠ 4 → j ≠ 7 → digitB (l.getD j 0) = true
theorem digRel_step {l : List UInt8} {k : Nat} (h : DigRel l k) (hc : k = 4 ∨ k = 7 ∨ digitB (l.getD k 0) = true) : DigRel l (k + 1) := fun j hj h4 h7 => by
  by_cases e : j < k
  · exact h j e h4 h7
  · obtain rfl : j = k := by omega
    rcases hc with h | h | h
    · exact absurd h h4
    · exact absurd h h7
    · exact h
theorem ten_list {l : List UInt8} (h : l.length = 10) : ∃ a0 a1 a2 a3 a4 a5 a6 a7 a8 a9 : UInt8, l = [a0, a1, a2, a3, a4, a5, a6, a7, a8, a9] := by
  match l, h with
  | [a0, a1, a2, a3, a4, a5, a6, a7, a8, a9], _ => exact ⟨a0, a1, a2, a3, a4, a5, a6, a7, a8, a9, rfl⟩
theorem digit_int {c : UInt8} (h : digitB c = true) : 48 ≤ (c.toNat : Int) ∧ (c.toNat : Int) ≤ 57 := by
  have := digitB_nat.1 h
  omega
theorem digit_of {c : UInt8} (h1 : 48 ≤ (c.toNat : Int)) (h2 : (c.toNat : Int) ≤ 57) : digitB c = true := digitB_nat.2 (by omega)
/-- What a text of ten bytes means, and its three numbers. -/
theorem mom_ten {l : List UInt8} (hl : l.length = 10) (h4 : l.getD 4 0 = 45) (h7 : l.getD 7 0 = 45) (hd : DigRel l 10) :
    ∃ y m d : Nat, momentQ l = (if dateB y m d then some (86400 * dayQ y m d) else none) ∧ y ≤ 9999 ∧ m ≤ 99 ∧ d ≤ 99 ∧
      (y : Int) = 1000 * (((l.getD 0 0).toNat : Int) - 48) + 100 * (((l.getD 1 0).toNat : Int) - 48) + 10 * (((l.getD 2 0).toNat : Int) - 48) + (((l.getD 3 0).toNat : Int) - 48) ∧
      (m : Int) = 10 * (((l.getD 5 0).toNat : Int) - 48) + (((l.getD 6 0).toNat : Int) - 48) ∧
      (d : Int) = 10 * (((l.getD 8 0).toNat : Int) - 48) + (((l.getD 9 0).toNat : Int) - 48) := by
  obtain ⟨a0, a1, a2, a3, a4, a5, a6, a7, a8, a9, rfl⟩ := ten_list hl
  have d0 : digitB a0 = true := hd 0 (by decide) (by decide) (by decide)
  have d1 : digitB a1 = true := hd 1 (by decide) (by decide) (by decide)
  have d2 : digitB a2 = true := hd 2 (by decide) (by decide) (by decide)
  have d3 : digitB a3 = true := hd 3 (by decide) (by decide) (by decide)
  have d5 : digitB a5 = true := hd 5 (by decide) (by decide) (by decide)
  have d6 : digitB a6 = true := hd 6 (by decide) (by decide) (by decide)
  have d8 : digitB a8 = true := hd 8 (by decide) (by decide) (by decide)
  have d9 : digitB a9 = true := hd 9 (by decide) (by decide) (by decide)
  have n0 := digitB_nat.1 d0; have n1 := digitB_nat.1 d1; have n2 := digitB_nat.1 d2; have n3 := digitB_nat.1 d3
  have n5 := digitB_nat.1 d5; have n6 := digitB_nat.1 d6; have n8 := digitB_nat.1 d8; have n9 := digitB_nat.1 d9
  have e1 : numQ [a0, a1, a2, a3] = 10 * (10 * (10 * (10 * 0 + (a0.toNat - 48)) + (a1.toNat - 48)) + (a2.toNat - 48)) + (a3.toNat - 48) := rfl
  have e2 : numQ [a5, a6] = 10 * (10 * 0 + (a5.toNat - 48)) + (a6.toNat - 48) := rfl
  have e3 : numQ [a8, a9] = 10 * (10 * 0 + (a8.toNat - 48)) + (a9.toNat - 48) := rfl
  refine ⟨numQ [a0, a1, a2, a3], numQ [a5, a6], numQ [a8, a9], ?_, by omega, by omega, by omega, ?_, ?_, ?_⟩
  · unfold momentQ
    rw [if_pos]
    · rfl
    · refine ⟨rfl, h4, h7, ?_, ?_, ?_⟩
      · show [a0, a1, a2, a3].all digitB = true
        simp [d0, d1, d2, d3]
      · show [a5, a6].all digitB = true
        simp [d5, d6]
      · show [a8, a9].all digitB = true
        simp [d8, d9]
  · show (numQ [a0, a1, a2, a3] : Int) = 1000 * ((a0.toNat : Int) - 48) + 100 * ((a1.toNat : Int) - 48) + 10 * ((a2.toNat : Int) - 48) + ((a3.toNat : Int) - 48)
    omega
  · show (numQ [a5, a6] : Int) = 10 * ((a5.toNat : Int) - 48) + ((a6.toNat : Int) - 48)
    omega
  · show (numQ [a8, a9] : Int) = 10 * ((a8.toNat : Int) - 48) + ((a9.toNat : Int) - 48)
    omega
theorem mom_none {l : List UInt8} (h : ¬ (l.length = 10 ∧ l.getD 4 0 = 45 ∧ l.getD 7 0 = 45 ∧ DigRel l 10)) : momentQ l = none := by
  unfold momentQ
  rw [if_neg]
  rintro ⟨h1, h2, h3, h4, h5, h6⟩
  refine h ⟨h1, h2, h3, ?_⟩
  obtain ⟨a0, a1, a2, a3, a4, a5, a6, a7, a8, a9, rfl⟩ := ten_list h1
  have g4 : [a0, a1, a2, a3].all digitB = true := h4
  have g5 : [a5, a6].all digitB = true := h5
  have g6 : [a8, a9].all digitB = true := h6
  simp only [List.all_cons, List.all_nil, Bool.and_eq_true, Bool.and_true] at g4 g5 g6
  obtain ⟨p0, p1, p2, p3⟩ := g4
  obtain ⟨p5, p6⟩ := g5
  obtain ⟨p8, p9⟩ := g6
  intro j hj hj4 hj7
  rcases (show j = 0 ∨ j = 1 ∨ j = 2 ∨ j = 3 ∨ j = 5 ∨ j = 6 ∨ j = 8 ∨ j = 9 by omega) with rfl | rfl | rfl | rfl | rfl | rfl | rfl | rfl
  · exact p0
  · exact p1
  · exact p2
  · exact p3
  · exact p5
  · exact p6
  · exact p8
  · exact p9
theorem day_bd {y m d : Nat} (h : dateB y m d = true) : -1000000 ≤ dayQ y m d ∧ dayQ y m d ≤ 3000000 := by
  have := day_in h
  omega
/-- A size handed back: -1 where there is none. -/
def SzPost (w : World) (o : Option Int) (e : Ending) (w' : World) : Prop := e = .returned (.int .i64 (o.getD (-1))) ∧ Below w.heap.size w w'
theorem sz_none {w w' : World} {o : Option Int} (h : o = none) (hb : Below w.heap.size w w') : SzPost w o (.returned (.int .i64 (-1))) w' := by subst h; exact ⟨rfl, hb⟩
theorem sz_some {w w' : World} {o : Option Int} {v : Int} (h : o = some v) (hb : Below w.heap.size w w') : SzPost w o (.returned (.int .i64 v)) w' := by subst h; exact ⟨rfl, hb⟩
end Go.Proofs.YtomcdhmcjndioaaGreatDoor
end
section
namespace Go.Proofs.YtomcdhmcjndioaaGreatDoor
open Go.RowKit
set_option linter.unusedVariables false

/-- The pieces of a text between dashes. -/
def splitF : Nat → List UInt8 → List (List UInt8)
  | 0, s => [s]
  | f + 1, s => match cutP 45 s with
    | none => [s]
    | some q => q.1 :: splitF f q.2
def splitD (s : List UInt8) : List (List UInt8) := splitF s.length s
theorem splitF_more : ∀ (f g : Nat) (s : List UInt8), s.length ≤ f → s.length ≤ g → splitF f s = splitF g s
  | 0, 0, _, _, _ => rfl
  | 0, g + 1, s, h, _ => by
    have : s = [] := List.eq_nil_of_length_eq_zero (by omega)
    subst this
    rfl
  | f + 1, 0, s, _, h => by
    have : s = [] := List.eq_nil_of_length_eq_zero (by omega)
    subst this
    rfl
  | f + 1, g + 1, s, hf, hg => by
    unfold splitF
    cases h : cutP 45 s with
    | none => rfl
    | some q =>
      obtain ⟨a, b⟩ := q
      have h1 := (cutP_some h).1
      have h2 : b.length < s.length := by rw [h1]; simp; omega
      dsimp only
      rw [splitF_more f g b (by omega) (by omega)]
theorem splitD_none {s : List UInt8} (h : cutP 45 s = none) : splitD s = [s] := by
  unfold splitD
  cases s with
  | nil => rfl
  | cons a r =>
    rw [List.length_cons]
    unfold splitF
    rw [h]
theorem splitD_some {s a b : List UInt8} (h : cutP 45 s = some (a, b)) : splitD s = a :: splitD b := by
  have h1 := (cutP_some h).1
  have h2 : b.length < s.length := by rw [h1]; simp; omega
  unfold splitD
  cases s with
  | nil => cases h
  | cons c r =>
    rw [List.length_cons]
    conv => lhs; unfold splitF
    rw [h]
    dsimp only
    rw [splitF_more r.length b.length b (by simp at h2; omega) (Nat.le_refl _)]
theorem split_lib : ∀ (n : Nat) (s : List UInt8), s.length ≤ n → Lib.splitB ⟨#[45]⟩ 0 (Lib.countB (ba s) ⟨#[45]⟩) (ba s) = (splitD s).map ba ∧ Lib.countB (ba s) ⟨#[45]⟩ + 1 = (splitD s).length
  | n, s, hn => by
    have hix : Lib.indexB (ba s) ⟨#[45]⟩ = findV 45 s := by
      show Lib.index (ba s).data.toList (⟨#[45]⟩ : ByteArray).data.toList = _
      rw [ba_list]
      exact index_find 45 s
    cases h : cutP 45 s with
    | none =>
      have hv : Lib.indexB (ba s) ⟨#[45]⟩ = -1 := by rw [hix]; unfold findV; rw [h]
      rw [splitD_none h, Lib.splitB_miss _ _ _ _ hv, Lib.countB_miss _ _ hv]
      exact ⟨rfl, rfl⟩
    | some q =>
      obtain ⟨a, b⟩ := q
      have h1 := (cutP_some h).1
      have h2 : b.length < s.length := by rw [h1]; simp; omega
      have hv : Lib.indexB (ba s) ⟨#[45]⟩ = ((a.length : Nat) : Int) := by rw [hix]; unfold findV; rw [h]
      have hd : (ba s).extract (a.length + (⟨#[45]⟩ : ByteArray).size) (ba s).size = ba b := by
        rw [ba_drop, show (⟨#[45]⟩ : ByteArray).size = 1 from rfl, h1]
        simp
      have ht : (ba s).extract 0 (a.length + 0) = ba a := by
        rw [ba_cut, h1]
        simp
      have hc := Lib.countB_hit (ba s) ⟨#[45]⟩ a.length (by decide) hv
      rw [hd] at hc
      cases n with
      | zero => omega
      | succ n =>
        obtain ⟨i1, i2⟩ := split_lib n b (by omega)
        rw [splitD_some h, hc, Nat.add_comm 1, Lib.splitB_hit _ _ _ _ _ hv, hd, ht, i1]
        exact ⟨rfl, by rw [List.length_cons, ← i2]⟩
/-- Three pieces of 4, 2 and 2 bytes: the text. -/
theorem split_three {s a b c : List UInt8} (h : splitD s = [a, b, c]) : s = a ++ 45 :: (b ++ 45 :: c) := by
  cases h1 : cutP 45 s with
  | none => rw [splitD_none h1] at h; simp at h
  | some q =>
    obtain ⟨a', r⟩ := q
    rw [splitD_some h1] at h
    injection h with e1 h
    cases h2 : cutP 45 r with
    | none => rw [splitD_none h2] at h; simp at h
    | some q2 =>
      obtain ⟨b', c'⟩ := q2
      rw [splitD_some h2] at h
      injection h with e2 h
      cases h3 : cutP 45 c' with
      | none =>
        rw [splitD_none h3] at h
        injection h with e3 _
        rw [(cutP_some h1).1, (cutP_some h2).1, e1, e2, e3]
      | some q3 =>
        obtain ⟨x, y⟩ := q3
        rw [splitD_some h3] at h
        injection h with _ h
        exfalso
        have : splitD y ≠ [] := by
          cases hy : cutP 45 y with
          | none => rw [splitD_none hy]; simp
          | some q => obtain ⟨u, v⟩ := q; rw [splitD_some hy]; simp
        exact this h
theorem cutP_hit {a b : List UInt8} (h : 45 ∉ a) : cutP 45 (a ++ 45 :: b) = some (a, b) := by
  cases hc : cutP 45 (a ++ 45 :: b) with
  | none => exact absurd (by simp) (cutP_none.1 hc)
  | some q =>
    obtain ⟨x, y⟩ := q
    obtain ⟨h1, h2⟩ := cutP_some hc
    have key : ∀ (a x b y : List UInt8), 45 ∉ a → 45 ∉ x → a ++ 45 :: b = x ++ 45 :: y → a = x ∧ b = y := by
      intro a
      induction a with
      | nil =>
        intro x b y _ hx e
        cases x with
        | nil => exact ⟨rfl, by simpa using e⟩
        | cons u v =>
          injection e with e1 _
          exact absurd (by rw [← e1]; simp) hx
      | cons p r ih =>
        intro x b y ha hx e
        cases x with
        | nil =>
          injection e with e1 _
          exact absurd (by rw [e1]; simp) ha
        | cons u v =>
          injection e with e1 e2
          obtain ⟨i1, i2⟩ := ih v b y (fun h => ha (List.mem_cons_of_mem _ h)) (fun h => hx (List.mem_cons_of_mem _ h)) e2
          exact ⟨by rw [e1, i1], i2⟩
    obtain ⟨k1, k2⟩ := key a x b y h h2 h1
    rw [k1, k2]
theorem digits_dash {l : List UInt8} (h : l.all digitB = true) : 45 ∉ l := fun hm => by
  have := List.all_eq_true.1 h 45 hm
  exact absurd this (by decide)
/-- What three pieces of the right lengths mean. -/
theorem mom_three {s a b c : List UInt8} (h : splitD s = [a, b, c]) (ha : a.length = 4) (hb : b.length = 2) (hc : c.length = 2) (h1 : a.all digitB = true) (h2 : b.all digitB = true) (h3 : c.all digitB = true) :
    momentQ s = if dateB (numQ a) (numQ b) (numQ c) then some (86400 * dayQ (numQ a) (numQ b) (numQ c)) else none := by
  have e := split_three h
  have e1 : s.take 4 = a := by rw [e, ← ha, List.take_left]
  have e2 : (s.drop 5).take 2 = b := by
    have : s.drop 5 = b ++ 45 :: c := by rw [e, show 5 = a.length + 1 by omega, List.drop_append]; simp
    rw [this, ← hb, List.take_left]
  have e3 : s.drop 8 = c := by
    rw [e, show 8 = a.length + (1 + (b.length + 1)) by omega, ← List.drop_drop, List.drop_left, ← List.drop_drop]
    show ((b ++ 45 :: c).drop (b.length + 1)) = c
    rw [← List.drop_drop, List.drop_left]
    rfl
  have g4 : s.getD 4 0 = 45 := by rw [e, List.getD_eq_getElem?_getD, List.getElem?_append_right (by omega), show 4 - a.length = 0 by omega]; rfl
  have g7 : s.getD 7 0 = 45 := by
    rw [e, List.getD_eq_getElem?_getD, List.getElem?_append_right (by omega), show 7 - a.length = 2 + 1 by omega, List.getElem?_cons_succ, List.getElem?_append_right (by omega), show 2 - b.length = 0 by omega]
    rfl
  have hl : s.length = 10 := by rw [e]; simp; omega
  unfold momentQ
  rw [e1, e2, e3, if_pos ⟨hl, g4, g7, h1, h2, h3⟩]
/-- A text that means a moment has three such pieces. -/
theorem mom_pieces {s : List UInt8} (h : momentQ s ≠ none) : ∃ a b c, splitD s = [a, b, c] ∧ a.length = 4 ∧ b.length = 2 ∧ c.length = 2 ∧ a.all digitB = true ∧ b.all digitB = true ∧ c.all digitB = true := by
  unfold momentQ at h
  split at h
  · rename_i hh
    obtain ⟨h1, h2, h3, h4, h5, h6⟩ := hh
    obtain ⟨a0, a1, a2, a3, a4, a5, a6, a7, a8, a9, rfl⟩ := ten_list h1
    have e4 : a4 = 45 := h2
    have e7 : a7 = 45 := h3
    subst e4 e7
    have g4 : [a0, a1, a2, a3].all digitB = true := h4
    have g5 : [a5, a6].all digitB = true := h5
    have g6 : [a8, a9].all digitB = true := h6
    refine ⟨[a0, a1, a2, a3], [a5, a6], [a8, a9], ?_, rfl, rfl, rfl, g4, g5, g6⟩
    have c1 : cutP 45 [a0, a1, a2, a3, 45, a5, a6, 45, a8, a9] = some ([a0, a1, a2, a3], [a5, a6, 45, a8, a9]) := cutP_hit (a := [a0, a1, a2, a3]) (b := [a5, a6, 45, a8, a9]) (digits_dash g4)
    have c2 : cutP 45 [a5, a6, 45, a8, a9] = some ([a5, a6], [a8, a9]) := cutP_hit (a := [a5, a6]) (b := [a8, a9]) (digits_dash g5)
    rw [splitD_some c1, splitD_some c2, splitD_none (cutP_none.2 (digits_dash g6))]
  · exact absurd rfl h
end Go.Proofs.YtomcdhmcjndioaaGreatDoor
end
section
namespace Go.Proofs.YtomcdhmcjndioaaGreatDoor
open Go.RowKit
set_option linter.unusedVariables false

theorem eqG3 (a b c x y z : Int) (W : World) : (eqGuard BinOp.eql 153 (.tmp 87) (.tmp 91) (.agg #[.int .i64 a, .int .i64 b, .int .i64 c]) (.agg #[.int .i64 x, .int .i64 y, .int .i64 z])).run Tryz.prog W = .ok () W := by kernel_rfl
theorem eqI3 (a b c x y z : Int) (w : World) : (Op.equalIn 10000 153 (.agg #[.int .i64 a, .int .i64 b, .int .i64 c]) (.agg #[.int .i64 x, .int .i64 y, .int .i64 z])).run Tryz.prog w = .ok (a == x && (b == y && c == z)) w := by
  have u3 := Tryz.underlying3
  have a3 := Tryz.isAgg3
  have z3 := Tryz.sizeOf3
  rw [show (10000 : Nat) = 9999 + 1 from rfl, Op.equalIn]
  simp only [Sem.run_bind, run_underlying Tryz.underlying153, Result.andThen_ok]
  simp only [Std.Legacy.Range.forIn_eq_forIn_range', Std.Legacy.Range.size, Nat.sub_zero, Nat.add_sub_cancel, Nat.div_one, List.range'_succ, List.range'_zero, List.forIn_cons, List.forIn_nil]
  go_simp
  by_cases h1 : a = x <;> by_cases h2 : b = y <;> by_cases h3 : c = z <;> simp [*]
theorem bin3 (a b c x y z : Int) (W : World) : (binOp BinOp.eql 153 (.agg #[.int .i64 a, .int .i64 b, .int .i64 c]) (.agg #[.int .i64 x, .int .i64 y, .int .i64 z])).run Tryz.prog W = .ok (.bool (a == x && (b == y && c == z))) W := by
  have := eqI3 a b c x y z
  go_simp
/-- Three integers in a block. -/
structure MArr (w : World) (g : Nat) (V : Nat → Int) : Prop where
  cell : ∀ j, j < 3 → w.cell? ⟨g, j, none⟩ = some (.int .i64 (V j))
  free : ∀ j, w.frozen? ⟨g, j, none⟩ = false
theorem MArr.set {w : World} {g k : Nat} {V : Nat → Int} (h : MArr w g V) (hk : k < 3) (v : Int) : MArr (w.setCell ⟨g, k, none⟩ (.int .i64 v)) g (fun j => if j = k then v else V j) := by
  refine ⟨fun j hj => ?_, fun j => by rw [World.frozen?_setCell]; exact h.free j⟩
  by_cases e : j = k
  · subst e
    rw [if_pos rfl]
    exact World.cell?_setCell_same _ _ _ (h.cell j hj)
  · rw [if_neg e, World.cell?_setCell_other _ _ _ _ (by intro x; injection x with _ x; exact e x.symm)]
    exact h.cell j hj
theorem MArr.kept {w w' : World} {g : Nat} {V : Nat → Int} (h : MArr w g V) (hb : w'.heap[g]? = w.heap[g]?) : MArr w' g V :=
  ⟨fun j hj => (World.cell?_of_block (w := w) (a := ⟨g, j, none⟩) hb).trans (h.cell j hj), fun j => (World.frozen?_of_block (w := w) (a := ⟨g, j, none⟩) hb).trans (h.free j)⟩
/-- The numbers while piece k has been read up to i. -/
def VK (ps : List (List UInt8)) (k i j : Nat) : Int := if j < k then numQ (ps.getD j []) else if j = k then numQ ((ps.getD k []).take i) else 0
theorem numQ_snoc (l : List UInt8) (c : UInt8) : numQ (l ++ [c]) = 10 * numQ l + (c.toNat - 48) := by unfold numQ; rw [List.foldl_append]; rfl
theorem VK_step {ps : List (List UInt8)} {k i : Nat} (hi : i < (ps.getD k []).length) (j : Nat) : VK ps k (i + 1) j = if j = k then 10 * VK ps k i k + (((ps.getD k [])[i].toNat - 48 : Nat) : Int) else VK ps k i j := by
  unfold VK
  by_cases e : j = k
  · subst e
    rw [if_neg (by omega), if_pos rfl, if_pos rfl, if_neg (by omega), if_pos rfl, List.take_succ_eq_append_getElem hi, numQ_snoc]
    simp
  · simp [e]
theorem VK_end (ps : List (List UInt8)) (k i j : Nat) (h : (ps.getD k []).length ≤ i) : VK ps k i j = VK ps (k + 1) 0 j := by
  unfold VK
  by_cases h1 : j < k
  · rw [if_pos h1, if_pos (by omega)]
  · rw [if_neg h1]
    by_cases h2 : j = k
    · subst h2
      rw [if_pos rfl, if_pos (by omega), List.take_of_length_le h]
    · rw [if_neg h2, if_neg (by omega)]
      split
      · first | rfl | simp
      · rfl
theorem numQ_le : ∀ l : List UInt8, l.length ≤ 4 → numQ l ≤ 229977
  | [], _ => by decide
  | [a], _ => by have := a.toNat_lt; show 10 * 0 + (a.toNat - 48) ≤ _; omega
  | [a, b], _ => by have := a.toNat_lt; have := b.toNat_lt; show 10 * (10 * 0 + (a.toNat - 48)) + (b.toNat - 48) ≤ _; omega
  | [a, b, c], _ => by have := a.toNat_lt; have := b.toNat_lt; have := c.toNat_lt; show 10 * (10 * (10 * 0 + (a.toNat - 48)) + (b.toNat - 48)) + (c.toNat - 48) ≤ _; omega
  | [a, b, c, d], _ => by have := a.toNat_lt; have := b.toNat_lt; have := c.toNat_lt; have := d.toNat_lt; show 10 * (10 * (10 * (10 * 0 + (a.toNat - 48)) + (b.toNat - 48)) + (c.toNat - 48)) + (d.toNat - 48) ≤ _; omega
  | _ :: _ :: _ :: _ :: _ :: _, h => by simp at h
theorem numQ_dig : ∀ l : List UInt8, l.length ≤ 4 → l.all digitB = true → numQ l ≤ 9999
  | [], _, _ => by decide
  | [a], _, h => by
    simp only [List.all_cons, List.all_nil, Bool.and_true] at h
    have := digitB_nat.1 h
    show 10 * 0 + (a.toNat - 48) ≤ _
    omega
  | [a, b], _, h => by
    simp only [List.all_cons, List.all_nil, Bool.and_eq_true, Bool.and_true] at h
    have := digitB_nat.1 h.1; have := digitB_nat.1 h.2
    show 10 * (10 * 0 + (a.toNat - 48)) + (b.toNat - 48) ≤ _
    omega
  | [a, b, c], _, h => by
    simp only [List.all_cons, List.all_nil, Bool.and_eq_true, Bool.and_true] at h
    have := digitB_nat.1 h.1; have := digitB_nat.1 h.2.1; have := digitB_nat.1 h.2.2
    show 10 * (10 * (10 * 0 + (a.toNat - 48)) + (b.toNat - 48)) + (c.toNat - 48) ≤ _
    omega
  | [a, b, c, d], _, h => by
    simp only [List.all_cons, List.all_nil, Bool.and_eq_true, Bool.and_true] at h
    have := digitB_nat.1 h.1; have := digitB_nat.1 h.2.1; have := digitB_nat.1 h.2.2.1; have := digitB_nat.1 h.2.2.2
    show 10 * (10 * (10 * (10 * 0 + (a.toNat - 48)) + (b.toNat - 48)) + (c.toNat - 48)) + (d.toNat - 48) ≤ _
    omega
  | _ :: _ :: _ :: _ :: _ :: _, h, _ => by simp at h
theorem day_zeroP : dayQ 1970 1 1 = 0 := by decide
theorem VK_own {ps : List (List UInt8)} {k i : Nat} (h : (ps.getD k []).length ≤ 4) : 0 ≤ VK ps k i k ∧ VK ps k i k ≤ 229977 := by
  unfold VK
  rw [if_neg (by omega), if_pos rfl]
  have := numQ_le ((ps.getD k []).take i) (by rw [List.length_take]; omega)
  omega
theorem MArr.congr {w : World} {g : Nat} {V V' : Nat → Int} (h : MArr w g V) (e : ∀ j, V j = V' j) : MArr w g V' := ⟨fun j hj => by rw [← e j]; exact h.cell j hj, h.free⟩
/-- The state of moment's loops. -/
structure MoRel (W1 : World) (g : Nat) (ps : List (List UInt8)) (k i : Nat) (wr : World) : Prop where
  arr : MArr wr g (VK ps k i)
  bel : Below W1.heap.size W1 wr
  sz : g < wr.heap.size
  dig : ∀ j, j < k → (ps.getD j []).all digitB = true
  dik : ((ps.getD k []).take i).all digitB = true
theorem mo_bad {l a b c : List UInt8} (h : splitD l = [a, b, c]) {k : Nat} (hk : k < 3) (hb : ([a, b, c].getD k []).all digitB = false) : momentQ l = none := by
  cases hm : momentQ l with
  | none => rfl
  | some v =>
    exfalso
    obtain ⟨a', b', c', e, _, _, _, d1, d2, d3⟩ := mom_pieces (s := l) (by rw [hm]; simp)
    rw [h] at e
    injection e with e1 e
    injection e with e2 e
    injection e with e3 e
    subst e1; subst e2; subst e3
    rcases (show k = 0 ∨ k = 1 ∨ k = 2 by omega) with rfl | rfl | rfl
    · have : a.all digitB = false := hb
      rw [d1] at this; cases this
    · have : b.all digitB = false := hb
      rw [d2] at this; cases this
    · have : c.all digitB = false := hb
      rw [d3] at this; cases this
theorem mo_shape {l : List UInt8} (h : ¬ ∃ a b c, splitD l = [a, b, c] ∧ a.length = 4 ∧ b.length = 2 ∧ c.length = 2) : momentQ l = none := by
  cases hm : momentQ l with
  | none => rfl
  | some v =>
    exfalso
    obtain ⟨a', b', c', e, h1, h2, h3, _⟩ := mom_pieces (s := l) (by rw [hm]; simp)
    exact h ⟨a', b', c', e, h1, h2, h3⟩
def SplPost (w : World) (l : List UInt8) (e : Ending) (w' : World) : Prop := e = .returned (.slice (some ⟨w.heap.size, 0, none⟩) (splitD l).length (splitD l).length) ∧ w' = w.alloc (.cells (((splitD l).map ba).map Value.string).toArray 9)
theorem split_any (l : List UInt8) (w : World) (hl : l.length ≤ 1000000) (hT : QTabs w) : Calls Tryz.prog 129 #[.string (ba l), .string ⟨#[45]⟩] w (SplPost w l) := by
  obtain ⟨m, hm⟩ := hT.max
  obtain ⟨h1, h2⟩ := split_lib l.length l (Nat.le_refl _)
  have h := Tryz.strings_Split (ba l) ⟨#[45]⟩ m w (by rw [ba_size]; omega) hm (by decide)
  rw [h1, h2] at h
  exact h
set_option maxRecDepth 100000 in
set_option maxHeartbeats 4000000 in
theorem qmoment_any (l : List UInt8) (w : World) (hl : l.length ≤ 1000000) (hT : QTabs w) :
    Calls Tryz.prog 115 #[.string (ba l)] w (MoPost w (momentQ l)) := by
  have HSP := Lib.hid (split_any l w hl hT)
  have HSH := Lib.hid (@mo_shape l)
  have HBA := Lib.hid (fun a b c (h : splitD l = [a, b, c]) k => @mo_bad l a b c h k)
  have HM3 := Lib.hid (fun a b c (h : splitD l = [a, b, c]) => @mom_three l a b c h)
  unfold SplPost at HSP
  obtain ⟨O, hO⟩ : ∃ O, momentQ l = O := ⟨_, rfl⟩
  simp only [hO] at HSH HBA HM3
  rw [hO]
  clear hO
  by_cases h3 : (splitD l).length = 3
  · obtain ⟨a, b, c, habc⟩ : ∃ a b c, splitD l = [a, b, c] := by
      match hh : splitD l, h3 with
      | [a, b, c], _ => exact ⟨a, b, c, rfl⟩
    have HSQ := Lib.hid (show Calls Tryz.prog 129 #[.string (ba l), .string ⟨#[45]⟩] w fun e w' => e = .returned (.slice (some ⟨w.heap.size, 0, none⟩) 3 3) ∧ w' = w.alloc (.cells #[.string (ba a), .string (ba b), .string (ba c)] 9) from by
      have h := HSP.out
      rw [habc] at h
      exact h)
    clear h3 HSP
    by_cases hlen : a.length = 4 ∧ b.length = 2 ∧ c.length = 2
    · obtain ⟨la, lb, lc⟩ := hlen
      have za : ((ba a).size : Int) = 4 := by rw [ba_size, la]; rfl
      have zb : ((ba b).size : Int) = 2 := by rw [ba_size, lb]; rfl
      have zc : ((ba c).size : Int) = 2 := by rw [ba_size, lc]; rfl
      have HLA := Lib.hid (And.intro la (And.intro lb lc))
      have HAB := Lib.hid habc
      obtain ⟨sa, hsa⟩ : ∃ s, ba a = s := ⟨_, rfl⟩
      obtain ⟨sb, hsb⟩ : ∃ s, ba b = s := ⟨_, rfl⟩
      obtain ⟨sc, hsc⟩ : ∃ s, ba c = s := ⟨_, rfl⟩
      have HSS := Lib.hid (And.intro hsa (And.intro hsb hsc))
      rw [hsa] at za
      rw [hsb] at zb
      rw [hsc] at zc
      simp only [hsa, hsb, hsc] at HSQ
      clear la lb lc habc hsa hsb hsc
      go_enter Tryz.func115, Tryz.ntmps115
      go_wp2_with fail
      refine HSQ.out.mono ?_
      rintro e w1 ⟨rfl, rfl⟩
      go_wp2
      have HB1 := Lib.hid (show Below w.heap.size w ((w.alloc (.cells #[.string sa, .string sb, .string sc] 9)).alloc (.cells #[.int .i64 0, .int .i64 0, .int .i64 0] 153)) from ((Below.refl _ _).alloc (Nat.le_refl _) _).alloc (by simp) _)
      have HST := Lib.hid (show MoRel w (w.heap.size + 1) [a, b, c] 0 0 ((w.alloc (.cells #[.string sa, .string sb, .string sc] 9)).alloc (.cells #[.int .i64 0, .int .i64 0, .int .i64 0] 153)) ∧ ((w.alloc (.cells #[.string sa, .string sb, .string sc] 9)).alloc (.cells #[.int .i64 0, .int .i64 0, .int .i64 0] 153)).heap[w.heap.size]? = some (.cells #[.string sa, .string sb, .string sc] 9 (0, 0)) from by
        have h1 := (MapKept.heap_alloc (w.alloc (.cells #[.string sa, .string sb, .string sc] 9)) (.cells #[.int .i64 0, .int .i64 0, .int .i64 0] 153)).1
        rw [World.size_alloc] at h1
        refine ⟨⟨⟨fun j hj => ?_, fun j => Lib.frozen_of_heap h1 j⟩, HB1.out, by simp, fun j hj => by omega, rfl⟩, ?_⟩
        · rw [Lib.cell_of_heap h1]
          rcases (show j = 0 ∨ j = 1 ∨ j = 2 by omega) with rfl | rfl | rfl <;> rfl
        · exact (heap_alloc_old _ _ (by simp)).trans (MapKept.heap_alloc w _).1)
      go_loopw [42] (fun i wr => ∃ k : Nat, k ≤ 3 ∧ i = .int .i64 (k : Int) ∧ Hid (MoRel w (w.heap.size + 1) [a, b, c] k 0 wr ∧ wr.heap[w.heap.size]? = some (.cells #[.string sa, .string sb, .string sc] 9 (0, 0)))) (fun i _ => 3 - (intOf i).toNat)
      case atStart => exact ⟨0, by omega, rfl, HST⟩
      case round =>
        obtain ⟨k, hk, rfl, HR⟩ := hrel
        by_cases hk3 : k < 3
        · have k2 : (k : Int) < 3 := by omega
          have k0 : (0 : Int) ≤ (k : Int) := by omega
          obtain ⟨p, hp⟩ : ∃ p, [a, b, c].getD k [] = p := ⟨_, rfl⟩
          have HP := Lib.hid hp
          have HPL := Lib.hid (show p.length ≤ 4 by
            obtain ⟨l1, l2, l3⟩ := HLA.out
            rw [← hp]
            rcases (show k = 0 ∨ k = 1 ∨ k = 2 by omega) with rfl | rfl | rfl
            · show a.length ≤ 4; omega
            · show b.length ≤ 4; omega
            · show c.length ≤ 4; omega)
          obtain ⟨sp, hsp⟩ : ∃ s, ba p = s := ⟨_, rfl⟩
          have HSP2 := Lib.hid hsp
          have hcell : wr.cell? ⟨w.heap.size, k, none⟩ = some (.string sp) := by
            rw [Lib.cell_of_heap HR.out.2]
            obtain ⟨e1, e2, e3⟩ := HSS.out
            rcases (show k = 0 ∨ k = 1 ∨ k = 2 by omega) with rfl | rfl | rfl
            · show some (Value.string sa) = _
              rw [← e1, ← hsp, ← hp]; rfl
            · show some (Value.string sb) = _
              rw [← e2, ← hsp, ← hp]; rfl
            · show some (Value.string sc) = _
              rw [← e3, ← hsp, ← hp]; rfl
          have hspz : sp.size = p.length := by rw [← hsp, ba_size]
          obtain ⟨n, hn⟩ : ∃ n, p.length = n := ⟨_, rfl⟩
          have HN0 := Lib.hid hn
          have HSZ := Lib.hid (hspz.trans hn)
          have hsz : (sp.size : Int) = n := by rw [hspz, hn]
          have hn4 : n ≤ 4 := by have := HPL.out; omega
          have hcv := fun (W : World) (S : ByteArray) => run_bytes_of_string (P := Tryz.prog) W 9 93 5 S Tryz.underlying9 Tryz.underlying93 Tryz.underlying5
          have HR0 := Lib.hid (fun (cap m : Nat) (hm : p.length ≤ m) => ByteRow.of_string wr p cap 5 m hm)
          rw [HSP2.out] at HR0
          clear hp hsp hspz hn
          go_wp2
          obtain ⟨C, hC⟩ : ∃ C, grownCap wr sp.size 0 5 = C := ⟨_, rfl⟩
          have HCN := Lib.hid (show p.length ≤ (bytesRow sp C).size by rw [bytesRow_size sp C (by rw [← hC]; have := grownCap_ge wr sp.size 0 5; omega), ← hC, HN0.out]; have := grownCap_ge wr sp.size 0 5; omega)
          rw [hC]
          clear hC hcv
          obtain ⟨wo, rfl⟩ : ∃ wo : World, wo = wr := ⟨_, rfl⟩
          have HI0 := Lib.hid (show MoRel w (w.heap.size + 1) [a, b, c] k 0 ((wo.alloc (.cells (bytesRow sp C) 5 ((bytesRow sp C).size, (bytesRow sp C).size + 1))).drew) ∧ ((wo.alloc (.cells (bytesRow sp C) 5 ((bytesRow sp C).size, (bytesRow sp C).size + 1))).drew).heap[w.heap.size]? = some (.cells #[.string sa, .string sb, .string sc] 9 (0, 0)) ∧ ByteRow ((wo.alloc (.cells (bytesRow sp C) 5 ((bytesRow sp C).size, (bytesRow sp C).size + 1))).drew) wo.heap.size p from by
            have hsz9 := HR.out.1.sz
            have ho : ∀ g, g < wo.heap.size → ((wo.alloc (.cells (bytesRow sp C) 5 ((bytesRow sp C).size, (bytesRow sp C).size + 1))).drew).heap[g]? = wo.heap[g]? := fun g hg => heap_alloc_old _ _ hg
            refine ⟨⟨HR.out.1.arr.kept (ho _ hsz9), (HR.out.1.bel.alloc HR.out.1.bel.size _).drew, ?_, HR.out.1.dig, HR.out.1.dik⟩, (ho _ (by omega)).trans HR.out.2, (HR0.out C _ HCN.out).drew⟩
            show _ < (wo.alloc _).heap.size
            simp
            omega)
          go_loopw [50] (fun j wr => ∃ i : Nat, i ≤ n ∧ j = .int .i64 (i : Int) ∧ Hid (MoRel w (w.heap.size + 1) [a, b, c] k i wr ∧ wr.heap[w.heap.size]? = some (.cells #[.string sa, .string sb, .string sc] 9 (0, 0)) ∧ ByteRow wr wo.heap.size p)) (fun j _ => n - (intOf j).toNat)
          case atStart => exact ⟨0, by omega, rfl, HI0⟩
          case round =>
            obtain ⟨i, hi, rfl, HRI⟩ := hrel
            by_cases hin : i < n
            · have i2 : (i : Int) < (n : Int) := by omega
              have i3 : (i : Int) < (sp.size : Int) := by omega
              have i0 : (0 : Int) ≤ (i : Int) := by omega
              have hip : i < p.length := by rw [HN0.out]; exact hin
              have hbyte := HRI.out.2.2.cell hip
              have hgl : ([a, b, c].getD k []).length ≤ 4 := by rw [HP.out]; exact HPL.out
              have hip2 : i < ([a, b, c].getD k []).length := by rw [HP.out]; exact hip
              have hget2 : ([a, b, c].getD k [])[i] = p[i] := List.getElem_of_eq HP.out hip2
              have HVS := Lib.hid (fun j => VK_step (ps := [a, b, c]) (k := k) hip2 j)
              simp only [hget2] at HVS
              have HDK := Lib.hid (show digitB p[i] = true → (([a, b, c].getD k []).take (i + 1)).all digitB = true from fun h => by
                have h0 := HRI.out.1.dik
                rw [HP.out] at h0 ⊢
                rw [List.take_succ_eq_append_getElem hip, List.all_append, h0]
                simpa using h)
              have HBD := Lib.hid (show digitB p[i] = false → ([a, b, c].getD k []).all digitB = false from fun h => by
                rw [HP.out, List.all_eq_false]
                exact ⟨p[i], List.getElem_mem hip, by rw [h]; decide⟩)
              obtain ⟨d, hd⟩ : ∃ d, p[i] = d := ⟨_, rfl⟩
              rw [hd] at hbyte HVS HDK HBD
              obtain ⟨y, hy⟩ : ∃ y : Int, (d.toNat : Int) = y := ⟨_, rfl⟩
              rw [hy] at hbyte
              have HY := Lib.hid hy
              have y0 : 0 ≤ y := by omega
              have y1 : y ≤ 255 := by have := d.toNat_lt; omega
              have hVc := HRI.out.1.arr.cell k hk3
              have hVf := HRI.out.1.arr.free k
              obtain ⟨v0, v1⟩ := VK_own (ps := [a, b, c]) (k := k) (i := i) hgl
              obtain ⟨v, hv⟩ : ∃ v, VK [a, b, c] k i k = v := ⟨_, rfl⟩
              have HVV := Lib.hid hv
              rw [hv] at hVc v0 v1
              clear hd hip hip2 hget2 hgl hy hv
              by_cases d1 : y < 48
              · have HN := Lib.hid (HBA.out a b c HAB.out k hk3 (HBD.out (by
                  cases hx : digitB d with
                  | false => rfl
                  | true => have := digit_int hx; rw [HY.out] at this; omega)))
                have b1 : decide (y < 48) = true := decide_eq_true d1
                clear hVf
                go_wp2
                go_ret2
                exact mo_end (by rw [HN.out]; rfl) (fun n h => by rw [HN.out] at h; cases h) (by omega) (by omega) HRI.out.1.bel
              · have b1 : decide (y < 48) = false := decide_eq_false d1
                by_cases d2 : 57 < y
                · have HN := Lib.hid (HBA.out a b c HAB.out k hk3 (HBD.out (by
                    cases hx : digitB d with
                    | false => rfl
                    | true => have := digit_int hx; rw [HY.out] at this; omega)))
                  have b2 : decide (57 < y) = true := decide_eq_true d2
                  clear hVf
                  go_wp2
                  go_ret2
                  exact mo_end (by rw [HN.out]; rfl) (fun n h => by rw [HN.out] at h; cases h) (by omega) (by omega) HRI.out.1.bel
                · have b2 : decide (57 < y) = false := decide_eq_false d2
                  have HDD := Lib.hid (HDK.out (digit_of (by rw [HY.out]; omega) (by rw [HY.out]; omega)))
                  have HSET := Lib.hid (show MArr (wr.setCell ⟨w.heap.size + 1, k, none⟩ (.int .i64 (10 * v + (y - 48)))) (w.heap.size + 1) (VK [a, b, c] k (i + 1)) from (HRI.out.1.arr.set hk3 _).congr fun j => by
                    rw [HVS.out j]
                    by_cases e : j = k
                    · rw [if_pos e, if_pos e, HVV.out]
                      have := HY.out
                      omega
                    · rw [if_neg e, if_neg e])
                  have HSZ9 := Lib.hid HRI.out.1.sz
                  go_wp2
                  go_roundw
                  case rel =>
                    refine ⟨i + 1, by omega, by go_num, Lib.hid ⟨⟨HSET.out, HRI.out.1.bel.setCell (by simp) _, ?_, HRI.out.1.dig, HDD.out⟩, ?_, ?_⟩⟩
                    · rw [World.size_setCell]; exact HSZ9.out
                    · rw [heap_setCell_other _ _ _ _ (by show w.heap.size ≠ w.heap.size + 1; omega)]; exact HRI.out.2.1
                    · exact HRI.out.2.2.kept (heap_setCell_other _ _ _ _ (by have := HR.out.1.sz; show wo.heap.size ≠ w.heap.size + 1; omega))
                  case measure => simp [intOf] <;> omega
            · obtain rfl : i = n := by omega
              have HEND := Lib.hid (show MoRel w (w.heap.size + 1) [a, b, c] (k + 1) 0 wr from by
                have h := HRI.out.1
                have hle : ([a, b, c].getD k []).length ≤ i := by rw [HP.out, HN0.out]; exact Nat.le_refl _
                refine ⟨h.arr.congr fun j => VK_end _ _ _ _ hle, h.bel, h.sz, fun j hj => ?_, rfl⟩
                by_cases e : j < k
                · exact h.dig j e
                · obtain rfl : j = k := by omega
                  have hd := h.dik
                  rw [List.take_of_length_le hle] at hd
                  exact hd)
              have HBK := Lib.hid HRI.out.2.1
              go_wp2
              go_roundw
              case rel => exact ⟨k + 1, by omega, by go_num, Lib.hid ⟨HEND.out, HBK.out⟩⟩
              case measure => simp [intOf] <;> omega
        · obtain rfl : k = 3 := by omega
          have c0 := HR.out.1.arr.cell 0 (by decide)
          have c1 := HR.out.1.arr.cell 1 (by decide)
          have c2 := HR.out.1.arr.cell 2 (by decide)
          have HDA := Lib.hid (show a.all digitB = true from HR.out.1.dig 0 (by decide))
          have HDB := Lib.hid (show b.all digitB = true from HR.out.1.dig 1 (by decide))
          have HDC := Lib.hid (show c.all digitB = true from HR.out.1.dig 2 (by decide))
          have HMQ := Lib.hid (HM3.out a b c HAB.out HLA.out.1 HLA.out.2.1 HLA.out.2.2 HDA.out HDB.out HDC.out)
          have n1 := numQ_dig a (by rw [HLA.out.1]; exact Nat.le_refl _) HDA.out
          have n2 := numQ_dig b (by rw [HLA.out.2.1]; decide) HDB.out
          have n3 := numQ_dig c (by rw [HLA.out.2.2]; decide) HDC.out
          rw [show VK [a, b, c] 3 0 0 = ((numQ a : Nat) : Int) from rfl] at c0
          rw [show VK [a, b, c] 3 0 1 = ((numQ b : Nat) : Int) from rfl] at c1
          rw [show VK [a, b, c] 3 0 2 = ((numQ c : Nat) : Int) from rfl] at c2
          obtain ⟨Y, hY⟩ : ∃ Y, numQ a = Y := ⟨_, rfl⟩
          obtain ⟨M, hM⟩ : ∃ M, numQ b = M := ⟨_, rfl⟩
          obtain ⟨D, hD⟩ : ∃ D, numQ c = D := ⟨_, rfl⟩
          rw [hY] at c0 n1
          rw [hM] at c1 n2
          rw [hD] at c2 n3
          simp only [hY, hM, hD] at HMQ
          have HBE := Lib.hid HR.out.1.bel
          have zr := HR.out.1.sz
          clear hY hM hD hk3
          go_wp2_with fail
          refine (ddays_any Y M D (by omega) (by omega) (by omega) _).mono ?_
          rintro e w1 ⟨rfl, hb1⟩
          have HB2 := Lib.hid (HBE.out.trans (hb1.mono HBE.out.size))
          have k0 : w1.cell? ⟨w.heap.size + 1, 0, none⟩ = some (.int .i64 (Y : Int)) := (hb1.cell (p := ⟨w.heap.size + 1, 0, none⟩) zr).trans c0
          have k1 : w1.cell? ⟨w.heap.size + 1, 1, none⟩ = some (.int .i64 (M : Int)) := (hb1.cell (p := ⟨w.heap.size + 1, 1, none⟩) zr).trans c1
          have k2 : w1.cell? ⟨w.heap.size + 1, 2, none⟩ = some (.int .i64 (D : Int)) := (hb1.cell (p := ⟨w.heap.size + 1, 2, none⟩) zr).trans c2
          have z1 : w.heap.size + 1 < w1.heap.size := Nat.lt_of_lt_of_le zr hb1.size
          clear hb1 c0 c1 c2
          cases hdt : dateB Y M D with
          | true =>
            have HV := Lib.hid (show O = some (86400 * dayQ Y M D) by rw [HMQ.out, if_pos hdt])
            have HDQ := Lib.hid (show daysQ Y M D = dayQ Y M D by unfold daysQ; rw [if_pos hdt])
            obtain ⟨b1, b2⟩ := day_bd hdt
            have HC := Lib.hid (dcivil_any Y M D hdt w1)
            rw [HDQ.out]
            obtain ⟨V, hV⟩ : ∃ V, dayQ Y M D = V := ⟨_, rfl⟩
            simp only [hV] at HV HC b1 b2
            rw [hV]
            clear hdt hV HDQ
            go_wp2_with fail
            refine HC.out.mono ?_
            rintro e w2 ⟨rfl, hb2⟩
            have HB3 := Lib.hid (HB2.out.trans (hb2.mono HB2.out.size))
            have j0 : w2.cell? ⟨w.heap.size + 1, 0, none⟩ = some (.int .i64 (Y : Int)) := (hb2.cell (p := ⟨w.heap.size + 1, 0, none⟩) z1).trans k0
            have j1 : w2.cell? ⟨w.heap.size + 1, 1, none⟩ = some (.int .i64 (M : Int)) := (hb2.cell (p := ⟨w.heap.size + 1, 1, none⟩) z1).trans k1
            have j2 : w2.cell? ⟨w.heap.size + 1, 2, none⟩ = some (.int .i64 (D : Int)) := (hb2.cell (p := ⟨w.heap.size + 1, 2, none⟩) z1).trans k2
            clear hb2 k0 k1 k2
            have hw : IntKind.i64.wrap (V * 86400) = V * 86400 := IntWalk.i64_in _ (by omega)
            have hbin := fun W => bin3 (Y : Int) (M : Int) (D : Int) (Y : Int) (M : Int) (D : Int) W
            have hgd := fun W => eqG3 (Y : Int) (M : Int) (D : Int) (Y : Int) (M : Int) (D : Int) W
            go_wp2
            go_quiet (fail)
            go_wp2
            go_ret2
            exact mo_end (by rw [HV.out]; rfl) (fun n h => by rw [HV.out] at h; injection h with h; omega) (by omega) (by omega) ((HB3.out).trans (below_drewN w2 _ |>.mono HB3.out.size))
          | false =>
            have HV := Lib.hid (show O = none by rw [HMQ.out, if_neg (by rw [hdt]; decide)])
            have HDQ := Lib.hid (show daysQ Y M D = 0 by unfold daysQ; rw [if_neg (by rw [hdt]; decide)])
            have HC := Lib.hid (show Calls Tryz.prog 89 #[.int .i64 0] w1 fun e w' => e = .returned (.tuple #[.int .i64 1970, .int .i64 1, .int .i64 1]) ∧ Below w1.heap.size w1 w' from by
              have h := dcivil_any 1970 1 1 (by decide) w1
              rw [day_zeroP] at h
              exact h)
            have HNE := Lib.hid (show ((Y : Int) == 1970 && ((M : Int) == 1 && (D : Int) == 1)) = false by
              cases hx : ((Y : Int) == 1970 && ((M : Int) == 1 && (D : Int) == 1)) with
              | false => rfl
              | true =>
                exfalso
                simp only [Bool.and_eq_true, beq_iff_eq] at hx
                have e1 : Y = 1970 := by omega
                have e2 : M = 1 := by omega
                have e3 : D = 1 := by omega
                rw [e1, e2, e3] at hdt
                exact absurd hdt (by decide))
            rw [HDQ.out]
            clear hdt HDQ
            go_wp2_with fail
            refine HC.out.mono ?_
            rintro e w2 ⟨rfl, hb2⟩
            have HB3 := Lib.hid (HB2.out.trans (hb2.mono HB2.out.size))
            have j0 : w2.cell? ⟨w.heap.size + 1, 0, none⟩ = some (.int .i64 (Y : Int)) := (hb2.cell (p := ⟨w.heap.size + 1, 0, none⟩) z1).trans k0
            have j1 : w2.cell? ⟨w.heap.size + 1, 1, none⟩ = some (.int .i64 (M : Int)) := (hb2.cell (p := ⟨w.heap.size + 1, 1, none⟩) z1).trans k1
            have j2 : w2.cell? ⟨w.heap.size + 1, 2, none⟩ = some (.int .i64 (D : Int)) := (hb2.cell (p := ⟨w.heap.size + 1, 2, none⟩) z1).trans k2
            clear hb2 k0 k1 k2
            have hbin := fun W => (bin3 (Y : Int) (M : Int) (D : Int) 1970 1 1 W).trans (by rw [HNE.out])
            have hgd := fun W => eqG3 (Y : Int) (M : Int) (D : Int) 1970 1 1 W
            go_wp2
            go_quiet (fail)
            go_wp2
            go_ret2
            exact mo_end (by rw [HV.out]; rfl) (fun n h => by rw [HV.out] at h; cases h) (by omega) (by omega) ((HB3.out).trans (below_drewN w2 _ |>.mono HB3.out.size))
    · have HN := Lib.hid (HSH.out (fun ⟨a', b', c', e, h1, h2, h4⟩ => by
        rw [habc] at e
        injection e with e1 e
        injection e with e2 e
        injection e with e3 e
        subst e1; subst e2; subst e3
        exact hlen ⟨h1, h2, h4⟩))
      have za : ((ba a).size : Int) = (a.length : Int) := by rw [ba_size]
      have zb : ((ba b).size : Int) = (b.length : Int) := by rw [ba_size]
      have zc : ((ba c).size : Int) = (c.length : Int) := by rw [ba_size]
      obtain ⟨sa, hsa⟩ : ∃ s, ba a = s := ⟨_, rfl⟩
      obtain ⟨sb, hsb⟩ : ∃ s, ba b = s := ⟨_, rfl⟩
      obtain ⟨sc, hsc⟩ : ∃ s, ba c = s := ⟨_, rfl⟩
      rw [hsa] at za
      rw [hsb] at zb
      rw [hsc] at zc
      simp only [hsa, hsb, hsc] at HSQ
      obtain ⟨x, hx⟩ : ∃ x : Int, (a.length : Int) = x := ⟨_, rfl⟩
      obtain ⟨y, hy⟩ : ∃ x : Int, (b.length : Int) = x := ⟨_, rfl⟩
      obtain ⟨z, hz⟩ : ∃ x : Int, (c.length : Int) = x := ⟨_, rfl⟩
      rw [hx] at za
      rw [hy] at zb
      rw [hz] at zc
      by_cases ex : x = 4
      · by_cases ey : y = 2
        · have gz : (z != 2) = true := by
            simp only [bne_iff_ne]
            intro h
            exact hlen ⟨by omega, by omega, by omega⟩
          have gx : (x != 4) = false := by simpa using ex
          have gy : (y != 2) = false := by simpa using ey
          clear hlen ex ey hx hy hz hsa hsb hsc habc
          go_enter Tryz.func115, Tryz.ntmps115
          go_wp2_with fail
          refine HSQ.out.mono ?_
          rintro e w1 ⟨rfl, rfl⟩
          go_wp2
          go_ret2
          exact mo_end (by rw [HN.out]; rfl) (fun n h => by rw [HN.out] at h; cases h) (by omega) (by omega) ((Below.refl _ _).alloc (Nat.le_refl _) _)
        · have gx : (x != 4) = false := by simpa using ex
          have gy : (y != 2) = true := by simpa using ey
          clear hlen ex ey hx hy hz hsa hsb hsc habc
          go_enter Tryz.func115, Tryz.ntmps115
          go_wp2_with fail
          refine HSQ.out.mono ?_
          rintro e w1 ⟨rfl, rfl⟩
          go_wp2
          go_ret2
          exact mo_end (by rw [HN.out]; rfl) (fun n h => by rw [HN.out] at h; cases h) (by omega) (by omega) ((Below.refl _ _).alloc (Nat.le_refl _) _)
      · have gx : (x != 4) = true := by simpa using ex
        clear hlen ex hx hy hz hsa hsb hsc habc
        go_enter Tryz.func115, Tryz.ntmps115
        go_wp2_with fail
        refine HSQ.out.mono ?_
        rintro e w1 ⟨rfl, rfl⟩
        go_wp2
        go_ret2
        exact mo_end (by rw [HN.out]; rfl) (fun n h => by rw [HN.out] at h; cases h) (by omega) (by omega) ((Below.refl _ _).alloc (Nat.le_refl _) _)
  · have HN := Lib.hid (HSH.out (fun ⟨a, b, c, e, _⟩ => h3 (by rw [e]; rfl)))
    have g1 : (((splitD l).length : Int) != 3) = true := by simp; omega
    clear h3
    go_enter Tryz.func115, Tryz.ntmps115
    go_wp2_with fail
    refine HSP.out.mono ?_
    rintro e w1 ⟨rfl, rfl⟩
    go_wp2
    go_ret2
    exact mo_end (by rw [HN.out]; rfl) (fun n h => by rw [HN.out] at h; cases h) (by omega) (by omega) ((Below.refl _ _).alloc (Nat.le_refl _) _)
end Go.Proofs.YtomcdhmcjndioaaGreatDoor
end
