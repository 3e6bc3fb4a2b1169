/- Integers that a slice owns: the words, and append of one. No condition. -/
import Derived.Test.YtlobiebmaheflaaAdd
namespace Go.Proofs.Ytlobiebmaheflaa
open Go.RowKit
set_option linter.unusedVariables false

theorem int_info : (Try.prog.info? 3).map (fun i => (i.zero, i.size, i.bytes)) = some (some (.int .i64 0), 1, 8) := by kernel_rfl
theorem I64s.snoc {l : List Int} (h : I64s l) {x : Int} (hx : -9223372036854775808 ≤ x ∧ x ≤ 9223372036854775807) : I64s (l ++ [x]) := by
  intro y hy
  rcases List.mem_append.1 hy with h1 | h1
  · exact h y h1
  · rw [List.mem_singleton] at h1; subst h1; exact hx
theorem iv_snoc (l : List Int) (x : Int) : iv (l ++ [x]) = iv l ++ [.int .i64 x] := by simp [iv]
/-- What a collecting loop holds: 'v' owns the integers 'acc' in memory of its own. -/
def OwnInts (w : World) (B : Nat) (v : Value) (acc : List Int) : Prop := w.ownsRow B 3 1 v acc.length (iv acc) ∧ I64s acc
theorem OwnInts.nil_ (w : World) (B : Nat) : OwnInts w B (.slice none 0 0) [] := ⟨World.ownsRow_nil _ _ _ _, fun x hx => by cases hx⟩
theorem OwnInts.ints {w : World} {B : Nat} {v : Value} {acc : List Int} (h : OwnInts w B v acc) : ∃ A c, v = .slice A acc.length c ∧ acc.length ≤ c ∧ c ≤ maxLen ∧ Ints w w.heap.size A acc.length acc := by
  rcases h.1.2 with ⟨rfl, hn⟩ | ⟨g, cap, cur, rfl, hb, hg, h1, h2, h3, h4⟩
  · rw [hn]
    have : acc = [] := List.eq_nil_of_length_eq_zero hn
    subst this
    exact ⟨none, 0, rfl, Nat.le_refl _, by simp, Ints.nil_⟩
  · exact ⟨_, cap, rfl, h1, h2, rfl, h.2, Run.of_own h.1⟩
theorem OwnInts.alloc {w : World} {B : Nat} {v : Value} {acc : List Int} (h : OwnInts w B v acc) (o : Obj) : OwnInts (w.alloc o) B v acc := ⟨h.1.alloc o, h.2⟩
theorem OwnInts.base {w : World} {B : Nat} {v : Value} {acc : List Int} (h : OwnInts w B v acc) : ∀ k, v.ownBlock = some k → B ≤ k := fun k hk => (h.1.lt k hk).1
theorem OwnInts.block {w w' : World} {B : Nat} {v : Value} {acc : List Int} (h : OwnInts w B v acc) (hb : ∀ b, v.ownBlock = some b → w'.heap[b]? = w.heap[b]?) : OwnInts w' B v acc := ⟨ownsRow_block h.1 hb, h.2⟩
theorem OwnInts.more {w : World} {B B' : Nat} {v : Value} {acc : List Int} (h : OwnInts w B v acc) (hB : B' ≤ B) : OwnInts w B' v acc := by
  obtain ⟨⟨h0, h1⟩, h2⟩ := h
  refine ⟨⟨h0, ?_⟩, h2⟩
  rcases h1 with h1 | ⟨g, cap, cur, e, hb, r⟩
  · exact .inl h1
  · exact .inr ⟨g, cap, cur, e, by omega, r⟩

/-- append of one integer onto a slice of the call's own; the world behind it may forget the box of the new element. -/
theorem wpList_push {ops : Array Oper} {rest : List Oper} {o : Oper} {a : Act} {W : World} {Q : Exit → Act → World → Prop} {B : Nat} {y : Int} {v : Value} {acc : List Int} (hown : OwnInts W B v acc) (hB : B ≤ W.heap.size)
    (hy : -9223372036854775808 ≤ y ∧ y ≤ 9223372036854775807) (hlen : acc.length < 1099511627776) (hgd : o.guard = none) (s x : Operand) (t : TypeId) (c : Nat)
    (ho : o.op = .call { callee := .builtin .append, args := #[s, x], argTypes := #[t, t] }) (ht : Try.prog.underlying t = some (.slice 3))
    (hs : a.eval s = v) (hx : a.eval x = .slice (some ⟨W.heap.size, 0, none⟩) 1 c)
    (h : ∀ v' w', OwnInts w' B v' (acc ++ [y]) → W.grownBy w' v.ownBlock → (v'.ownBlock = v.ownBlock ∨ ∃ k, v'.ownBlock = some k ∧ W.heap.size ≤ k) → wpList Try.prog ops Q rest (a.put o.dst v') w') :
    wpList Try.prog ops Q (o :: rest) a (W.alloc (.cells #[.int .i64 y] 3)) := by
  obtain ⟨i0, hi, hz0, hz1, hz2⟩ := info_parts int_info
  refine wpList_append_own_at _ hgd s x t ho B 3 i0 _ 1 8 ht hi hz0 hz1 hz2 rfl (by omega) v acc.length (iv acc) hs (hown.alloc _).1 ⟨W.heap.size, 0, none⟩ 1 c [.int .i64 y] hx rfl (cell_one_new _ _ _) ?_ (by simp only [maxLen]; omega) (by omega) (by simp; omega) ?_
  · intro u hu; simp at hu; subst hu; rfl
  · intro v' w' h1 h2 _ h4
    refine h v' w' ⟨?_, hown.2.snoc hy⟩ ?_ ?_
    · rw [iv_snoc]; simpa using h1
    · have h5 := World.grownBy_alloc W (.cells #[.int .i64 y] 3) v.ownBlock
      exact ⟨h2.os.trans h5.os, h2.tape.trans h5.tape, h2.output.trans h5.output, Nat.le_trans h5.size h2.size, fun k hk hne => (h2.block k (by simp; omega) hne).trans (h5.block k hk hne)⟩
    · rcases h4 with h4 | h4
      · exact .inl h4
      · exact .inr ⟨_, h4, by simp⟩
end Go.Proofs.Ytlobiebmaheflaa
