/- Contracts of few, within and row: what the law's own helpers compute. -/
import Derived.Test.YtfnbchbndmbjaaaSmall
namespace Go.Proofs.Ytfnbchbndmbjaaa
open Go.RowKit
set_option linter.unusedVariables false

theorem few_any (A B : Option Addr) (n m c d : Nat) (w : World) (hn : n ≤ maxLen) (hm : m ≤ maxLen) :
    Calls Try.prog 10 #[.slice A n c, .slice B m d] w fun e w' => e = .returned (.bool (decide (n ≤ 300) && decide (m ≤ 300))) ∧ w = w' := by
  unfold maxLen at hn hm
  by_cases h : n ≤ 300 <;> by_cases h' : m ≤ 300
  all_goals
    go_enter Try.func10, Try.ntmps10
    go_wp2
    go_ret
    exact ⟨ret_bool (by simp [h, h'] <;> omega), rfl⟩

/-- The greedy test: how many places of r are met in order in the first k of l. -/
def wit (r l : List Int) : Nat → Nat
  | 0 => 0
  | k + 1 => if wit r l k < r.length ∧ gi l k = gi r (wit r l k) then wit r l k + 1 else wit r l k
theorem wit_le (r l : List Int) (k : Nat) : wit r l k ≤ r.length := by
  induction k with
  | zero => simp [wit]
  | succ k ih => simp only [wit]; split <;> omega
theorem wit_full (r l : List Int) (k j : Nat) (h : wit r l k = r.length) : wit r l (k + j) = r.length := by
  induction j with
  | zero => exact h
  | succ j ih => rw [← Nat.add_assoc]; simp only [wit]; rw [if_neg (by omega)]; exact ih

set_option maxHeartbeats 400000 in
theorem within_any (A B : Option Addr) (n m c d : Nat) (r l : List Int) (w : World) (ha : Ints w w.heap.size A n r) (hb : Ints w w.heap.size B m l) (hn : n ≤ maxLen) (hm : m ≤ maxLen) :
    Calls Try.prog 20 #[.slice A n c, .slice B m d] w fun e w' => e = .returned (.bool (wit r l l.length == r.length)) ∧ ∃ k, w' = w.drewN k := by
  unfold maxLen at hn hm
  have HN := Lib.hid ha.len
  have HM := Lib.hid hb.len
  go_enter Try.func20, Try.ntmps20
  go_wp2
  go_loopw [5, 6] (fun q i wr => ∃ k g : Nat, k ≤ m ∧ i = .int .i64 k ∧ q = .int .i64 g ∧ Hid (g = wit r l k) ∧ g ≤ n ∧ ∃ d, wr = w.drewN d) (fun _ i _ => m - (intOf i).toNat)
  case atStart => exact ⟨0, 0, Nat.zero_le _, rfl, rfl, rfl, Nat.zero_le _, 0, rfl⟩
  case round =>
    obtain ⟨k, g, hk, rfl, rfl, hg, hgn, dd, rfl⟩ := hrel
    by_cases hlt : k < m
    · by_cases hgl : g < n
      · obtain ⟨ad, rfl, _, hca⟩ := ha.at_ hgl
        obtain ⟨bd, rfl, _, hcb⟩ := hb.at_ hlt
        by_cases he : gi l k = gi r g
        · have HE := Lib.hid he
          have hne : (gi l k == gi r g) = true := by simpa using he
          clear he
          go_wp2
          go_quiet (fail)
          go_wp2
          go_roundw
          case rel =>
            refine ⟨k + 1, g + 1, by omega, by go_num, by go_num, ?_, by omega, dd + nq, (by first | rfl | exact World.drewN_drewN w dd nq)⟩
            show g + 1 = wit r l (k + 1)
            simp only [wit]
            rw [← hg.out, if_pos ⟨by rw [HN.out]; exact hgl, HE.out⟩]
          case measure => simp [intOf]; omega
        · have HE := Lib.hid he
          have hne : (gi l k == gi r g) = false := by simpa using he
          clear he
          go_wp2
          go_quiet (fail)
          go_wp2
          go_roundw
          case rel =>
            refine ⟨k + 1, g, by omega, by go_num, by go_num, ?_, by omega, dd + nq, (by first | rfl | exact World.drewN_drewN w dd nq)⟩
            show g = wit r l (k + 1)
            simp only [wit]
            rw [← hg.out, if_neg (fun h => HE.out h.2)]
          case measure => simp [intOf]; omega
      · have HR := Lib.hid (show wit r l l.length = r.length by
          have h1 : wit r l k = r.length := by rw [← hg.out, HN.out]; omega
          have h2 := wit_full r l k (l.length - k) h1
          rwa [show k + (l.length - k) = l.length by rw [HM.out]; omega] at h2)
        obtain rfl : g = n := by omega
        go_wp2
        go_ret
        exact ⟨ret_bool (by rw [HR.out]; simp), _, rfl⟩
    · obtain rfl : k = m := by omega
      go_wp2
      go_ret
      refine ⟨ret_bool ?_, _, rfl⟩
      rw [HM.out, HN.out, ← hg.out]
      by_cases e : g = n
      · subst e; simp
      · have e' : ¬ ((g : Int) = (n : Int)) := by omega
        rw [beq_eq_false_iff_ne.2 e, beq_eq_false_iff_ne.2 e']

/-- The elements of l at the places, up to the first place that is not beyond the last one or not within l. -/
def rowGo (l : List Int) : Int → List Int → List Int
  | _, [] => []
  | last, p :: ps => if p ≤ last ∨ (l.length : Int) ≤ p then [] else gi l p.toNat :: rowGo l p ps
theorem rowGo_at (l places : List Int) (last : Int) (k : Nat) (hk : k < places.length) : rowGo l last (places.drop k) =
    if gi places k ≤ last ∨ (l.length : Int) ≤ gi places k then [] else gi l (gi places k).toNat :: rowGo l (gi places k) (places.drop (k + 1)) := by
  rw [List.drop_eq_getElem_cons hk, gi_get hk]; rfl

theorem int_info : (Try.prog.info? 3).map (fun i => (i.zero, i.size, i.bytes)) = some (some (.int .i64 0), 1, 8) := by kernel_rfl
theorem I64s.snoc {l : List Int} (h : I64s l) {x : Int} (hx : -9223372036854775808 ≤ x ∧ x ≤ 9223372036854775807) : I64s (l ++ [x]) := by
  intro y hy
  rcases List.mem_append.1 hy with h1 | h1
  · exact h y h1
  · rw [List.mem_singleton] at h1; subst h1; exact hx
theorem iv_snoc (l : List Int) (x : Int) : iv (l ++ [x]) = iv l ++ [.int .i64 x] := by simp [iv]
theorem iv_len (l : List Int) : (iv l).length = l.length := by simp [iv]

/-- What a collecting loop holds: 'v' owns the integers 'acc' in memory of its own. -/
def OwnInts (w : World) (B : Nat) (v : Value) (acc : List Int) : Prop := w.ownsRow B 3 1 v acc.length (iv acc) ∧ I64s acc
theorem OwnInts.nil_ (w : World) (B : Nat) : OwnInts w B (.slice none 0 0) [] := ⟨World.ownsRow_nil _ _ _ _, fun x hx => by cases hx⟩
theorem OwnInts.drewN {w : World} {B : Nat} {v : Value} {acc : List Int} (h : OwnInts w B v acc) (n : Nat) : OwnInts (w.drewN n) B v acc := h
theorem OwnInts.ints {w : World} {B : Nat} {v : Value} {acc : List Int} (h : OwnInts w B v acc) : ∃ A c, v = .slice A acc.length c ∧ acc.length ≤ c ∧ c ≤ maxLen ∧ Ints w w.heap.size A acc.length acc := by
  rcases h.1.2 with ⟨rfl, hn⟩ | ⟨g, cap, cur, rfl, hb, hg, h1, h2, h3, h4⟩
  · rw [hn]
    have : acc = [] := List.eq_nil_of_length_eq_zero hn
    subst this
    exact ⟨none, 0, rfl, Nat.le_refl _, by simp, Ints.nil_⟩
  · exact ⟨_, cap, rfl, h1, h2, rfl, h.2, Run.of_own h.1⟩

theorem OwnInts.alloc {w : World} {B : Nat} {v : Value} {acc : List Int} (h : OwnInts w B v acc) (o : Obj) : OwnInts (w.alloc o) B v acc := ⟨h.1.alloc o, h.2⟩

/-- append of one integer onto a slice of the call's own; the world behind it may forget the box of the new element. -/
theorem wpList_push {ops : Array Oper} {rest : List Oper} {o : Oper} {a : Act} {W : World} {Q : Exit → Act → World → Prop} {B : Nat} {y : Int} {v : Value} {acc : List Int} (hown : OwnInts W B v acc) (hB : B ≤ W.heap.size)
    (hy : -9223372036854775808 ≤ y ∧ y ≤ 9223372036854775807) (hlen : acc.length < 1099511627776) (hgd : o.guard = none) (s x : Operand) (t : TypeId) (c : Nat)
    (ho : o.op = .call { callee := .builtin .append, args := #[s, x], argTypes := #[t, t] }) (ht : Try.prog.underlying t = some (.slice 3))
    (hs : a.eval s = v) (hx : a.eval x = .slice (some ⟨W.heap.size, 0, none⟩) 1 c)
    (h : ∀ v' w', OwnInts w' B v' (acc ++ [y]) → W.grownBy w' v.ownBlock → (v'.ownBlock = v.ownBlock ∨ ∃ k, v'.ownBlock = some k ∧ W.heap.size ≤ k) → wpList Try.prog ops Q rest (a.put o.dst v') w') :
    wpList Try.prog ops Q (o :: rest) a (W.alloc (.cells #[.int .i64 y] 3)) := by
  obtain ⟨i0, hi, hz0, hz1, hz2⟩ := info_parts int_info
  refine wpList_append_own_at _ hgd s x t ho B 3 i0 _ 1 8 ht hi hz0 hz1 hz2 rfl (by omega) v acc.length (iv acc) hs (hown.alloc _).1 ⟨W.heap.size, 0, none⟩ 1 c [.int .i64 y] hx rfl (cell_one_new _ _ _) ?_ (by simp only [maxLen]; omega) (by omega) (by simp; omega) ?_
  · intro u hu; simp at hu; subst hu; rfl
  · intro v' w' h1 h2 _ h4
    refine h v' w' ⟨?_, hown.2.snoc hy⟩ ?_ ?_
    · rw [iv_snoc]; simpa using h1
    · have h5 := World.grownBy_alloc W (.cells #[.int .i64 y] 3) v.ownBlock
      exact ⟨h2.os.trans h5.os, h2.tape.trans h5.tape, h2.output.trans h5.output, Nat.le_trans h5.size h2.size, fun k hk hne => (h2.block k (by simp; omega) hne).trans (h5.block k hk hne)⟩
    · rcases h4 with h4 | h4
      · exact .inl h4
      · exact .inr ⟨_, h4, by simp⟩

theorem OwnInts.base {w : World} {B : Nat} {v : Value} {acc : List Int} (h : OwnInts w B v acc) : ∀ k, v.ownBlock = some k → B ≤ k := fun k hk => (h.1.lt k hk).1

set_option maxHeartbeats 400000 in
theorem row_any (A B : Option Addr) (n m c d : Nat) (l places : List Int) (w : World) (ha : Ints w w.heap.size A n l) (hb : Ints w w.heap.size B m places) (hn : n ≤ maxLen) (hm : m ≤ 300) :
    Calls Try.prog 19 #[.slice A n c, .slice B m d] w fun e w' => ∃ v, e = .returned v ∧ OwnInts w' w.heap.size v (rowGo l (-1) places) ∧ Below w.heap.size w w' := by
  unfold maxLen at hn
  have HN := Lib.hid ha.len
  have HM := Lib.hid hb.len
  go_enter Try.func19, Try.ntmps19
  go_wp2
  go_loopw [5, 6, 7] (fun o q i wr => ∃ (k : Nat) (la : Int) (acc : List Int), k ≤ m ∧ i = .int .i64 k ∧ q = .int .i64 la ∧ -1 ≤ la ∧ la ≤ 9223372036854775807 ∧ acc.length ≤ k ∧
      Hid (rowGo l (-1) places = acc ++ rowGo l la (places.drop k)) ∧ OwnInts wr w.heap.size o acc ∧ Below w.heap.size w wr) (fun _ _ i _ => m - (intOf i).toNat)
  case atStart => exact ⟨0, -1, [], Nat.zero_le _, rfl, rfl, by omega, by omega, by simp, Lib.hid rfl, OwnInts.nil_ _ _, Below.refl _ _⟩
  case round =>
    obtain ⟨k, la, acc, hk, rfl, rfl, hl1, hl2, hak, hgo, hown, hbel⟩ := hrel
    by_cases hlt : k < m
    · obtain ⟨bd, rfl, hbb, hcb0⟩ := hb.at_ hlt
      have hcb := (hbel.cell (p := bd.add k) (by rw [add_block]; exact hbb)).trans hcb0
      obtain ⟨hp1, hp2⟩ := hb.bounds k
      by_cases h1 : gi places k ≤ la
      · have HE := Lib.hid (show rowGo l (-1) places = acc by rw [hgo.out, rowGo_at _ _ _ _ (by rw [HM.out]; exact hlt), if_pos (.inl h1)]; simp)
        go_wp2
        go_ret
        exact ⟨_, rfl, by rw [HE.out]; exact hown, hbel⟩
      · by_cases h2 : (n : Int) ≤ gi places k
        · have HE := Lib.hid (show rowGo l (-1) places = acc by rw [hgo.out, rowGo_at _ _ _ _ (by rw [HM.out]; exact hlt), if_pos (.inr (by rw [HN.out]; exact h2))]; simp)
          go_wp2
          go_ret
          exact ⟨_, rfl, by rw [HE.out]; exact hown, hbel⟩
        · have HE := Lib.hid (show rowGo l (-1) places = (acc ++ [gi l (gi places k).toNat]) ++ rowGo l (gi places k) (places.drop (k + 1)) by
            rw [hgo.out, rowGo_at _ _ _ _ (by rw [HM.out]; exact hlt), if_neg (by rw [HN.out]; omega)]; simp)
          obtain ⟨p, hp⟩ : ∃ p, p = gi places k := ⟨_, rfl⟩
          rw [← hp] at h1 h2 HE hcb hp1 hp2
          clear hp hgo
          obtain ⟨ad, rfl, hab, hca0⟩ := ha.at_ (k := p.toNat) (by omega)
          have hca := (hbel.cell (p := ad.add p.toNat) (by rw [add_block]; exact hab)).trans hca0
          clear hca0 hcb0
          have hla : acc.length < 1099511627776 := by omega
          have hgb := ha.bounds p.toNat
          go_wp2_with (at_builtin; go_must (refine wpList_push hown hbel.size hgb hla rfl (.tmp 34) (.tmp 39) 22 1 rfl Try.underlying22 rfl rfl ?_); intro v' w1 hown1 hg1 hat1)
          go_roundw
          case rel => exact ⟨k + 1, p, acc ++ [gi l p.toNat], by omega, by go_num, rfl, by omega, by omega, by simp; omega, HE, hown1, hbel.grown hg1 hbel.size hown.base⟩
          case measure => simp [intOf]; omega
    · have HE := Lib.hid (show rowGo l (-1) places = acc by rw [hgo.out, List.drop_eq_nil_of_le (by rw [HM.out]; omega)]; simp [rowGo])
      go_wp2
      go_ret
      exact ⟨_, rfl, by rw [HE.out]; exact hown, hbel⟩
end Go.Proofs.Ytfnbchbndmbjaaa
