/- Layer 2, plain: the encoding of integers, strings and lists; reading them back. Words for memory: a run of cells that reads as a list, kept by whatever leaves older blocks alone; integers that a slice owns; strings. Comparison of integers; function values that can be called. Layer 5: the table of spans and the search in it. Layer 32: the table of spans and the search in it. The package variables as the rows lay them: both tables in memory; the door's own heap meets the condition. -/
import Derived.Lib.Hide
import Derived.Test.YtomcdhmcjndioaaGreatDoorProg
import Derived.ProofKit
import Derived.WalkKit
import Derived.WalkSpells
import Derived.WalkLawsBesides
import Derived.BigQuiet
import Derived.Deep.QuietTactic
import Derived.Deep.DeepCutAuto
import Derived.Deep.RegionWith
import Derived.Laws.OwnMore
import Derived.Deep.AppendLies
import Derived.Deep.Draws
import Derived.Maps.AppendAt
import Derived.OneCell
import Derived.ShutString
import Derived.Test.YtomcdhmcjndioaaGreatDoorRows
import Derived.Test.YtomcdhmcjndioaaGreatDoorChecked
import Derived.LaidMore
import Derived.OpenShut
import Derived.Deep.Slices
section
namespace Go.Proofs.YtomcdhmcjndioaaGreatDoor
set_option linter.unusedVariables false

/-- The varint of a number. -/
def vnum (n : Nat) : List UInt8 := if h : n < 128 then [UInt8.ofNat n] else UInt8.ofNat (n % 128 + 128) :: vnum (n / 128)
termination_by n
theorem vnum_lt {n : Nat} (h : n < 128) : vnum n = [UInt8.ofNat n] := by rw [vnum]; simp [h]
theorem vnum_ge {n : Nat} (h : 128 ≤ n) : vnum n = UInt8.ofNat (n % 128 + 128) :: vnum (n / 128) := by rw [vnum]; simp [show ¬ n < 128 by omega]
def vint (n : Int) : List UInt8 := if n < 0 then [] else vnum n.toNat
theorem vint_nat (n : Nat) : vint (n : Int) = vnum n := by unfold vint; rw [if_neg (by omega)]; simp
theorem vint_neg {n : Int} (h : n < 0) : vint n = [] := by unfold vint; rw [if_pos h]
theorem vint_pos {n : Int} (h : 0 ≤ n) : vint n = vnum n.toNat := by unfold vint; rw [if_neg (by omega)]
theorem vnum_len : ∀ (k n : Nat), n < 128 ^ k → 1 ≤ k → (vnum n).length ≤ k
  | 0, n, h, hk => by omega
  | k + 1, n, h, _ => by
    by_cases hn : n < 128
    · rw [vnum_lt hn]; simp
    · rw [vnum_ge (by omega), List.length_cons]
      have h2 : n / 128 < 128 ^ k := by rw [Nat.pow_succ] at h; omega
      have hk : 1 ≤ k := by
        cases k with
        | zero => simp at h2; omega
        | succ k => omega
      have := vnum_len k (n / 128) h2 hk
      omega
theorem vint_len (n : Int) (h : n ≤ 9223372036854775807) : (vint n).length ≤ 9 := by
  unfold vint
  split
  · simp
  · exact vnum_len 9 _ (by have : (128 : Nat) ^ 9 = 9223372036854775808 := rfl; omega) (by omega)
def vtext (s : List UInt8) : List UInt8 := vnum s.length ++ s
def vints (l : List Int) : List UInt8 := vnum l.length ++ l.flatMap vint
theorem vints_len : ∀ l : List Int, (∀ x, x ∈ l → x ≤ 9223372036854775807) → (l.flatMap vint).length ≤ 9 * l.length
  | [], _ => by simp
  | a :: r, h => by
    have h1 := vint_len a (h a (by simp))
    have h2 := vints_len r fun x hx => h x (by simp [hx])
    simp only [List.flatMap_cons, List.length_append, List.length_cons]; omega

/-- How many bytes of 128 and more stand ahead. -/
def hi : List UInt8 → Nat
  | [] => 0
  | b :: r => if 128 ≤ b.toNat then hi r + 1 else 0
/-- The number that seven bits of each byte give. -/
def val : List UInt8 → Nat
  | [] => 0
  | b :: r => b.toNat % 128 + 128 * val r
theorem hi_le : ∀ l : List UInt8, hi l ≤ l.length
  | [] => Nat.le_refl _
  | b :: r => by unfold hi; split; exact Nat.succ_le_succ (hi_le r); exact Nat.zero_le _
theorem hi_ge : ∀ (l : List UInt8) (k : Nat) (hk : k < l.length), k < hi l → 128 ≤ l[k].toNat
  | [], k, hk, _ => by simp at hk
  | b :: r, k, hk, h => by
    unfold hi at h
    split at h
    · cases k with
      | zero => assumption
      | succ k => exact hi_ge r k (by simpa using hk) (by omega)
    · omega
theorem hi_at : ∀ (l : List UInt8) (hk : hi l < l.length), l[hi l].toNat < 128
  | [], hk => by simp [hi] at hk
  | b :: r, hk => by
    by_cases hb : 128 ≤ b.toNat
    · have e : hi (b :: r) = hi r + 1 := by simp [hi, hb]
      have := hi_at r (by rw [e] at hk; simpa using hk)
      simp only [e, List.getElem_cons_succ]; exact this
    · have e : hi (b :: r) = 0 := by simp [hi, hb]
      simp only [e, List.getElem_cons_zero]; omega
/-- A walk from byte to byte finds hi. -/
theorem hi_step {l : List UInt8} {k : Nat} (hk : k < l.length) (h : k ≤ hi l) : (128 ≤ l[k].toNat → k + 1 ≤ hi l) ∧ (l[k].toNat < 128 → k = hi l) := by
  constructor
  · intro hb
    rcases Nat.lt_or_ge k (hi l) with h1 | h1
    · omega
    · have e : k = hi l := by omega
      subst e
      have := hi_at l hk; omega
  · intro hb
    rcases Nat.lt_or_ge k (hi l) with h1 | h1
    · have := hi_ge l k hk h1; omega
    · omega
theorem val_append (a b : List UInt8) : val (a ++ b) = val a + 128 ^ a.length * val b := by
  induction a with
  | nil => simp [val]
  | cons x r ih =>
    simp only [List.cons_append, val, ih, List.length_cons, Nat.pow_succ, Nat.mul_add]
    rw [Nat.mul_comm (128 ^ r.length) 128, Nat.mul_assoc]; omega
theorem val_lt (l : List UInt8) : val l < 128 ^ l.length := by
  induction l with
  | nil => simp [val]
  | cons x r ih => simp only [val, List.length_cons, Nat.pow_succ]; omega
theorem take_snoc' {α : Type} {l : List α} {k : Nat} (hk : k < l.length) : l.take (k + 1) = l.take k ++ [l[k]] := List.take_succ_eq_append_getElem hk
theorem val_take {l : List UInt8} {k : Nat} (hk : k < l.length) : val (l.take (k + 1)) = val (l.take k) + 128 ^ k * (l[k].toNat % 128) := by
  rw [take_snoc' hk, val_append, List.length_take, Nat.min_eq_left (by omega)]
  simp [val]
theorem drop_cons' {α : Type} {l : List α} {k : Nat} (hk : k < l.length) : l.drop k = l[k] :: l.drop (k + 1) := List.drop_eq_getElem_cons hk
/-- A number ahead, and what follows. -/
def rnum (l : List UInt8) : Option (Nat × List UInt8) :=
  if h : hi l < l.length then (if hi l ≤ 8 ∧ (hi l = 0 ∨ l[hi l].toNat ≠ 0) then some (val (l.take (hi l + 1)), l.drop (hi l + 1)) else none) else none
theorem rnum_some {l : List UInt8} (h : hi l < l.length) (h8 : hi l ≤ 8) (h0 : hi l = 0 ∨ l[hi l].toNat ≠ 0) : rnum l = some (val (l.take (hi l + 1)), l.drop (hi l + 1)) := by
  unfold rnum; rw [dif_pos h, if_pos ⟨h8, h0⟩]
theorem rnum_short {l : List UInt8} (h : l.length ≤ hi l) : rnum l = none := by unfold rnum; rw [dif_neg (by omega)]
theorem rnum_long {l : List UInt8} (h : 8 < hi l) : rnum l = none := by
  unfold rnum; split
  · rw [if_neg (by omega)]
  · rfl
theorem rnum_zero {l : List UInt8} (h : hi l < l.length) (h1 : hi l ≠ 0) (h0 : l[hi l].toNat = 0) : rnum l = none := by
  unfold rnum; rw [dif_pos h, if_neg (by omega)]
theorem rnum_bound {l t : List UInt8} {n : Nat} (h : rnum l = some (n, t)) : n < 9223372036854775808 ∧ t.length < l.length := by
  unfold rnum at h
  split at h
  · rename_i h1
    split at h
    · rename_i h2
      injection h with h
      injection h with e1 e2
      subst e1; subst e2
      refine ⟨?_, by rw [List.length_drop]; omega⟩
      have h3 := val_lt (l.take (hi l + 1))
      rw [List.length_take, Nat.min_eq_left (by omega)] at h3
      refine Nat.lt_of_lt_of_le h3 ?_
      have : (128 : Nat) ^ (hi l + 1) ≤ 128 ^ 9 := Nat.pow_le_pow_right (by omega) (by omega)
      have e : (128 : Nat) ^ 9 = 9223372036854775808 := rfl
      omega
    · cases h
  · cases h

/-- A reader: what is unread, and whether it has failed. -/
structure Rd where
  s : List UInt8
  bad : Bool
def Rd.fails : Rd := ⟨[], true⟩
def Rd.num (r : Rd) : Nat × Rd := match rnum r.s with
  | some (n, t) => (n, ⟨t, r.bad⟩)
  | none => (0, Rd.fails)
def Rd.take (r : Rd) (n : Int) : List UInt8 × Rd := if n < 0 ∨ (r.s.length : Int) < n ∨ r.bad = true then ([], Rd.fails) else (r.s.take n.toNat, ⟨r.s.drop n.toNat, r.bad⟩)
def Rd.text (r : Rd) : List UInt8 × Rd := r.num.2.take r.num.1
def Rd.loop : Nat → Rd → List Int → List Int × Rd
  | 0, r, out => (out, r)
  | k + 1, r, out => if r.num.2.bad = true then ([], r.num.2) else Rd.loop k r.num.2 (out ++ [(r.num.1 : Int)])
def Rd.nums (r : Rd) : List Int × Rd := if r.num.2.s.length < r.num.1 then ([], Rd.fails) else if r.num.2.bad = true then ([], r.num.2) else Rd.loop r.num.1 r.num.2 []
def Rd.done (r : Rd) : Bool := !r.bad && r.s.isEmpty
theorem Rd.num_bound (r : Rd) : r.num.1 < 9223372036854775808 ∧ r.num.2.s.length ≤ r.s.length := by
  unfold Rd.num
  cases h : rnum r.s with
  | none => exact ⟨by show 0 < _; omega, Nat.zero_le _⟩
  | some p => have := rnum_bound (n := p.1) (t := p.2) h; exact ⟨this.1, by show p.2.length ≤ _; omega⟩

end Go.Proofs.YtomcdhmcjndioaaGreatDoor
end
section
namespace Go.Proofs.YtomcdhmcjndioaaGreatDoor
open Go.RowKit
set_option linter.unusedVariables false

theorem add_block (a : Addr) (n : Nat) : (a.add n).block = a.block := by unfold Addr.add; split <;> rfl
theorem add_add' (a : Addr) (i j : Nat) : (a.add i).add j = a.add (i + j) := by
  unfold Addr.add
  by_cases hi : i = 0 <;> by_cases hj : j = 0 <;> simp [hi, hj, Nat.add_assoc]

/-- The cells 'xs' lie from 'A' on, in a block below B. -/
def Run (w : World) (B : Nat) (A : Option Addr) (xs : List Value) : Prop :=
  xs = [] ∨ ∃ ad, A = some ad ∧ ad.block < B ∧ ∀ j u, xs[j]? = some u → w.cell? (ad.add j) = some u

section
variable {w w' : World} {B B' : Nat} {A : Option Addr} {xs : List Value}
theorem Run.nil_ : Run w B A [] := .inl rfl
theorem Run.at_ {k : Nat} (h : Run w B A xs) (hk : k < xs.length) : ∃ ad u, A = some ad ∧ ad.block < B ∧ xs[k]? = some u ∧ w.cell? (ad.add k) = some u := by
  rcases h with rfl | ⟨ad, e, hb, hc⟩
  · simp at hk
  · exact ⟨ad, xs[k], e, hb, List.getElem?_eq_getElem hk, hc k _ (List.getElem?_eq_getElem hk)⟩
theorem Run.keep (h : Run w B A xs) (hk : ∀ p : Addr, p.block < B → w'.cell? p = w.cell? p) : Run w' B A xs := by
  rcases h with h | ⟨ad, e, hb, hc⟩
  · exact .inl h
  · exact .inr ⟨ad, e, hb, fun j u hu => (hk _ (by rw [add_block]; exact hb)).trans (hc j u hu)⟩
theorem Run.more (h : Run w B A xs) (hB : B ≤ B') : Run w B' A xs := by
  rcases h with h | ⟨ad, e, hb, hc⟩
  · exact .inl h
  · exact .inr ⟨ad, e, by omega, hc⟩
theorem Run.below (h : Run w B A xs) (hb : Below B w w') : Run w' B A xs := h.keep fun _ hp => hb.cell hp
theorem Run.drew (h : Run w B A xs) : Run w.drew B A xs := h
theorem Run.drewN (h : Run w B A xs) (k : Nat) : Run (w.drewN k) B A xs := h
theorem Run.cut (h : Run w B A xs) {k cap : Nat} (hc : xs.length ≤ cap) :
    Run w B (if cap = k then A else A.map (·.add k)) (xs.drop k) := by
  rcases h with rfl | ⟨ad, rfl, hb, hcell⟩
  · exact .inl (by simp)
  · by_cases hk : xs.length ≤ k
    · exact .inl (by simp [hk])
    · rw [if_neg (by omega)]
      refine .inr ⟨ad.add k, rfl, by rw [add_block]; exact hb, fun j u hu => ?_⟩
      rw [add_add']
      exact hcell _ u (by rw [← hu, List.getElem?_drop])
theorem Run.take (h : Run w B A xs) (k : Nat) : Run w B A (xs.take k) := by
  rcases h with rfl | ⟨ad, rfl, hb, hcell⟩
  · exact .inl (by simp)
  · refine .inr ⟨ad, rfl, hb, fun j u hu => hcell j u ?_⟩
    rw [List.getElem?_take] at hu
    split at hu
    · exact hu
    · cases hu
theorem Run.of_own {base size n : Nat} {e : TypeId} {c : Nat} (h : w.ownsRow base e size (.slice A n c) n xs) : Run w w.heap.size A xs := by
  by_cases hn : n = 0
  · have := h.1; rw [hn] at this; exact .inl (List.eq_nil_of_length_eq_zero (by simpa using this))
  · obtain ⟨g, cap, hv, _, hlt⟩ := h.form (by omega)
    have hA : A = some ⟨g, 0, none⟩ := by injection hv
    subst hA
    exact .inr ⟨_, rfl, hlt, h.cells (g := g) rfl⟩
end

/-- Integers as values, and the bounds that an int of Go keeps. -/
def iv (l : List Int) : List Value := l.map (Value.int .i64)
/-- Element k (0 beyond the end), under a name that simp leaves alone. -/
def gi (l : List Int) (k : Nat) : Int := l.getD k 0
theorem gi_get {l : List Int} {k : Nat} (h : k < l.length) : gi l k = l[k] := by simp [gi, h]
def I64s (l : List Int) : Prop := ∀ x ∈ l, -9223372036854775808 ≤ x ∧ x ≤ 9223372036854775807
/-- 'A' with 'n' places reads as the integers 'l'. -/
def Ints (w : World) (B : Nat) (A : Option Addr) (n : Nat) (l : List Int) : Prop := n = l.length ∧ I64s l ∧ Run w B A (iv l)

section
variable {w w' : World} {B B' n : Nat} {A : Option Addr} {l : List Int}
theorem Ints.at_ {k : Nat} (h : Ints w B A n l) (hk : k < n) : ∃ ad, A = some ad ∧ ad.block < B ∧ w.cell? (ad.add k) = some (.int .i64 (gi l k)) := by
  obtain ⟨rfl, _, hr⟩ := h
  obtain ⟨ad, u, e, hb, hx, hc⟩ := hr.at_ (k := k) (by simpa [iv] using hk)
  refine ⟨ad, e, hb, ?_⟩
  rw [hc, ← hx]
  simp [iv, hk, gi]
theorem Ints.len (h : Ints w B A n l) : l.length = n := h.1.symm
theorem Ints.bounds (h : Ints w B A n l) (k : Nat) : -9223372036854775808 ≤ gi l k ∧ gi l k ≤ 9223372036854775807 := by
  unfold gi
  by_cases hk : k < l.length
  · have := h.2.1 (l[k]) (List.getElem_mem hk)
    simpa [List.getD_eq_getElem?_getD, List.getElem?_eq_getElem hk] using this
  · rw [List.getD_eq_getElem?_getD, List.getElem?_eq_none (by omega)]; simp
theorem Ints.below (h : Ints w B A n l) (hb : Below B w w') : Ints w' B A n l := ⟨h.1, h.2.1, h.2.2.below hb⟩
theorem Ints.more (h : Ints w B A n l) (hB : B ≤ B') : Ints w B' A n l := ⟨h.1, h.2.1, h.2.2.more hB⟩
theorem Ints.drewN (h : Ints w B A n l) (k : Nat) : Ints (w.drewN k) B A n l := h
theorem Ints.nil_ : Ints w B A 0 [] := ⟨rfl, (fun x hx => by cases hx), .inl rfl⟩
end
theorem heap_lt {w : World} {b : Nat} {o : Obj} (h : w.heap[b]? = some o) : b < w.heap.size := (Array.getElem?_eq_some_iff.1 h).1
theorem ownsRow_block {w w' : World} {base : Nat} {e : TypeId} {size : Nat} {v : Value} {n : Nat} {xs : List Value} (h : w.ownsRow base e size v n xs) (hb : ∀ b, v.ownBlock = some b → w'.heap[b]? = w.heap[b]?) : w'.ownsRow base e size v n xs := by
  refine ⟨h.1, ?_⟩
  rcases h.2 with hn | ⟨g, cap, cur, rfl, hbb, hg, rest⟩
  · exact .inl hn
  · exact .inr ⟨g, cap, cur, rfl, hbb, (hb g rfl).trans hg, rest⟩
theorem int_info : (Tryz.prog.info? 3).map (fun i => (i.zero, i.size, i.bytes)) = some (some (.int .i64 0), 1, 8) := by kernel_rfl
theorem I64s.snoc {l : List Int} (h : I64s l) {x : Int} (hx : -9223372036854775808 ≤ x ∧ x ≤ 9223372036854775807) : I64s (l ++ [x]) := by
  intro y hy
  rcases List.mem_append.1 hy with h1 | h1
  · exact h y h1
  · rw [List.mem_singleton] at h1; subst h1; exact hx
theorem iv_snoc (l : List Int) (x : Int) : iv (l ++ [x]) = iv l ++ [.int .i64 x] := by simp [iv]
/-- What a collecting loop holds: 'v' owns the integers 'acc' in memory of its own. -/
def OwnInts (w : World) (B : Nat) (v : Value) (acc : List Int) : Prop := w.ownsRow B 3 1 v acc.length (iv acc) ∧ I64s acc
theorem OwnInts.nil_ (w : World) (B : Nat) : OwnInts w B (.slice none 0 0) [] := ⟨World.ownsRow_nil _ _ _ _, fun x hx => by cases hx⟩
theorem OwnInts.ints {w : World} {B : Nat} {v : Value} {acc : List Int} (h : OwnInts w B v acc) : ∃ A c, v = .slice A acc.length c ∧ acc.length ≤ c ∧ c ≤ maxLen ∧ Ints w w.heap.size A acc.length acc := by
  rcases h.1.2 with ⟨rfl, hn⟩ | ⟨g, cap, cur, rfl, hb, hg, h1, h2, h3, h4⟩
  · rw [hn]
    have : acc = [] := List.eq_nil_of_length_eq_zero hn
    subst this
    exact ⟨none, 0, rfl, Nat.le_refl _, by simp, Ints.nil_⟩
  · exact ⟨_, cap, rfl, h1, h2, rfl, h.2, Run.of_own h.1⟩
theorem OwnInts.alloc {w : World} {B : Nat} {v : Value} {acc : List Int} (h : OwnInts w B v acc) (o : Obj) : OwnInts (w.alloc o) B v acc := ⟨h.1.alloc o, h.2⟩
theorem OwnInts.base {w : World} {B : Nat} {v : Value} {acc : List Int} (h : OwnInts w B v acc) : ∀ k, v.ownBlock = some k → B ≤ k := fun k hk => (h.1.lt k hk).1
theorem OwnInts.block {w w' : World} {B : Nat} {v : Value} {acc : List Int} (h : OwnInts w B v acc) (hb : ∀ b, v.ownBlock = some b → w'.heap[b]? = w.heap[b]?) : OwnInts w' B v acc := ⟨ownsRow_block h.1 hb, h.2⟩
theorem OwnInts.more {w : World} {B B' : Nat} {v : Value} {acc : List Int} (h : OwnInts w B v acc) (hB : B' ≤ B) : OwnInts w B' v acc := by
  obtain ⟨⟨h0, h1⟩, h2⟩ := h
  refine ⟨⟨h0, ?_⟩, h2⟩
  rcases h1 with h1 | ⟨g, cap, cur, e, hb, r⟩
  · exact .inl h1
  · exact .inr ⟨g, cap, cur, e, by omega, r⟩

/-- append of one integer onto a slice of the call's own; the world behind it may forget the box of the new element. -/
theorem wpList_push {ops : Array Oper} {rest : List Oper} {o : Oper} {a : Act} {W : World} {Q : Exit → Act → World → Prop} {B : Nat} {y : Int} {v : Value} {acc : List Int} (hown : OwnInts W B v acc) (hB : B ≤ W.heap.size)
    (hy : -9223372036854775808 ≤ y ∧ y ≤ 9223372036854775807) (hlen : acc.length < 1099511627776) (hgd : o.guard = none) (s x : Operand) (t : TypeId) (c : Nat)
    (ho : o.op = .call { callee := .builtin .append, args := #[s, x], argTypes := #[t, t] }) (ht : Tryz.prog.underlying t = some (.slice 3))
    (hs : a.eval s = v) (hx : a.eval x = .slice (some ⟨W.heap.size, 0, none⟩) 1 c)
    (h : ∀ v' w', OwnInts w' B v' (acc ++ [y]) → W.grownBy w' v.ownBlock → (v'.ownBlock = v.ownBlock ∨ ∃ k, v'.ownBlock = some k ∧ W.heap.size ≤ k) → wpList Tryz.prog ops Q rest (a.put o.dst v') w') :
    wpList Tryz.prog ops Q (o :: rest) a (W.alloc (.cells #[.int .i64 y] 3)) := by
  obtain ⟨i0, hi, hz0, hz1, hz2⟩ := info_parts int_info
  refine wpList_append_own_at _ hgd s x t ho B 3 i0 _ 1 8 ht hi hz0 hz1 hz2 rfl (by omega) v acc.length (iv acc) hs (hown.alloc _).1 ⟨W.heap.size, 0, none⟩ 1 c [.int .i64 y] hx rfl (cell_one_new _ _ _) ?_ (by simp only [maxLen]; omega) (by omega) (by simp; omega) ?_
  · intro u hu; simp at hu; subst hu; rfl
  · intro v' w' h1 h2 _ h4
    refine h v' w' ⟨?_, hown.2.snoc hy⟩ ?_ ?_
    · rw [iv_snoc]; simpa using h1
    · have h5 := World.grownBy_alloc W (.cells #[.int .i64 y] 3) v.ownBlock
      exact ⟨h2.os.trans h5.os, h2.tape.trans h5.tape, h2.output.trans h5.output, Nat.le_trans h5.size h2.size, fun k hk hne => (h2.block k (by simp; omega) hne).trans (h5.block k hk hne)⟩
    · rcases h4 with h4 | h4
      · exact .inl h4
      · exact .inr ⟨_, h4, by simp⟩

/-- Outside F the world w' is as w was. -/
structure Off (F : Nat → Prop) (w w' : World) : Prop where
  os : w'.os = w.os
  tape : w'.tape = w.tape
  output : w'.output = w.output
  size : w.heap.size ≤ w'.heap.size
  block : ∀ k, k < w.heap.size → ¬ F k → w'.heap[k]? = w.heap[k]?

namespace Off
variable {F G : Nat → Prop} {a b c w w' : World}
theorem refl (F : Nat → Prop) (w : World) : Off F w w := ⟨rfl, rfl, rfl, Nat.le_refl _, fun _ _ _ => rfl⟩
theorem trans (h : Off F a b) (k : Off F b c) : Off F a c :=
  ⟨k.os.trans h.os, k.tape.trans h.tape, k.output.trans h.output, Nat.le_trans h.size k.size, fun i hi hF => (k.block i (Nat.lt_of_lt_of_le hi h.size) hF).trans (h.block i hi hF)⟩
theorem mono (h : Off F a b) (hF : ∀ k, k < a.heap.size → F k → G k) : Off G a b := ⟨h.os, h.tape, h.output, h.size, fun i hi hn => h.block i hi fun hf => hn (hF i hi hf)⟩
/-- What the second step touches is new or was touched by the first. -/
theorem andThen (h : Off F a b) (k : Off G b c) (hG : ∀ i, i < a.heap.size → G i → F i) : Off F a c :=
  ⟨k.os.trans h.os, k.tape.trans h.tape, k.output.trans h.output, Nat.le_trans h.size k.size, fun i hi hF => (k.block i (Nat.lt_of_lt_of_le hi h.size) fun hg => hF (hG i hi hg)).trans (h.block i hi hF)⟩
theorem alloc (h : Off F a b) (o : Obj) : Off F a (b.alloc o) :=
  h.andThen (G := fun _ => False) ⟨rfl, rfl, rfl, by simp, fun k hk _ => heap_alloc_old b o hk⟩ fun _ _ h => h.elim
theorem setCell (h : Off F a b) {p : Addr} (hp : F p.block ∨ a.heap.size ≤ p.block) (u : Value) : Off F a (b.setCell p u) :=
  h.andThen (G := fun k => k = p.block) ⟨rfl, rfl, rfl, by simp [World.setCell], fun k hk hn => heap_setCell_other b p k u hn⟩ fun i hi e => by subst e; rcases hp with h | h; exact h; omega
theorem drew (h : Off F a b) : Off F a b.drew := ⟨h.os, h.tape, h.output, h.size, h.block⟩
theorem drewN (h : Off F a b) (n : Nat) : Off F a (b.drewN n) := ⟨h.os, h.tape, h.output, h.size, h.block⟩
theorem grown (h : Off F a b) {row : Option Nat} (hg : b.grownBy c row) (hr : ∀ k, row = some k → F k ∨ a.heap.size ≤ k) : Off F a c :=
  h.andThen (G := fun k => row = some k) ⟨hg.os, hg.tape, hg.output, hg.size, fun k hk hn => hg.block k hk fun e => hn e.symm⟩ fun i hi e => by rcases hr i e with h | h; exact h; omega
theorem below {B : Nat} (h : Off F a b) (hB : B ≤ a.heap.size) (hF : ∀ k, F k → B ≤ k) : Below B a b :=
  ⟨h.os, h.tape, h.output, h.size, fun k hk => h.block k (by omega) fun hf => by have := hF k hf; omega⟩
theorem of_below {B : Nat} (h : Below B a b) (hB : ∀ k, k < a.heap.size → B ≤ k → F k) : Off F a b :=
  ⟨h.os, h.tape, h.output, h.size, fun k hk hn => h.block k (by rcases Nat.lt_or_ge k B with h | h; exact h; exact absurd (hB k hk h) hn)⟩
end Off


/-- A list of bytes as a string of Go. -/
def ba (l : List UInt8) : ByteArray := ⟨l.toArray⟩
theorem ba_list (l : List UInt8) : (ba l).data.toList = l := rfl
theorem ba_eq (s : ByteArray) : ba s.data.toList = s := rfl
theorem ba_size (l : List UInt8) : (ba l).size = l.length := by unfold ba; simp [ByteArray.size]
theorem ba_toList (l : List UInt8) : (ba l).toList = l := by rw [ByteArray.toList_eq]; rfl
theorem ba_inj {a b : List UInt8} : ba a = ba b ↔ a = b := ⟨fun h => by rw [← ba_list a, h, ba_list], fun h => by rw [h]⟩
theorem ba_get (l : List UInt8) (k : Nat) (h : k < (ba l).size) : (ba l)[k] = l[k]'(by rw [← ba_size]; exact h) := rfl
theorem ba_drop (l : List UInt8) (k : Nat) : (ba l).extract k (ba l).size = ba (l.drop k) := by
  rw [ba_size]; unfold ba; apply ByteArray.ext; simp
  exact List.take_of_length_le (by simp)
theorem ba_cut (l : List UInt8) (i j : Nat) : (ba l).extract i j = ba ((l.take j).drop i) := by
  unfold ba; apply ByteArray.ext; simp [List.extract_eq_take_drop, List.drop_take]
theorem ba_append (a b : List UInt8) : ba a ++ ba b = ba (a ++ b) := by unfold ba; apply ByteArray.ext; simp
end Go.Proofs.YtomcdhmcjndioaaGreatDoor
end
section
namespace Go.Proofs.YtomcdhmcjndioaaGreatDoor
open Go.RowKit
set_option linter.unusedVariables false

/-- A string handed back. -/
def StrPost (w : World) (l : List UInt8) (e : Ending) (w' : World) : Prop := e = .returned (.string (ba l)) ∧ Below w.heap.size w w'
theorem int_eq {a b : Int} (h : a = b) : Value.int .i64 a = Value.int .i64 b := by rw [h]
theorem Below.drewN {B : Nat} {a w : World} (h : Below B a w) (k : Nat) : Below B a (w.drewN k) := ⟨h.os, h.tape, h.output, h.size, h.block⟩
def Callable (f : FuncId) : Prop := ∀ (args : Array Value) (w : World), (callFunc f args).run Tryz.prog w = .ok (.enter f args) w
theorem callable_of {f : FuncId} {fn : Func} (hf : Tryz.prog.funcs[f]? = some fn) (hn : (fn.name == "runtime.NumGoroutine") = false) (hb : fn.body.isNone = false) : Callable f := fun args w => by
  simp only [callFunc, Sem.run_bind, run_program, Result.andThen_ok, hf, hn, hb, if_false, Bool.false_eq_true, Sem.run_pure]
/-- A call of a function value with two arguments. -/
theorem wpList_callv2 {ops : Array Oper} {rest : List Oper} {o : Oper} {a : Act} {w : World} {Q : Exit → Act → World → Prop} {R : World → Prop} {fk : FuncId} {ck : Array Value} {v u : Value} (hgd : o.guard = none) (f x y : Operand) (t t2 : TypeId)
    (ho : o.op = .call { callee := .value f, args := #[x, y], argTypes := #[t, t2] }) (hf : a.eval f = .func (.func fk) #[] ck) (hx : a.eval x = v) (hy : a.eval y = u) (hcall : Callable fk)
    (h : Calls Tryz.prog fk (#[v, u] ++ ck) w fun e w' => (∃ r, e = .returned r) ∧ R w') (hK : ∀ r w', R w' → wpList Tryz.prog ops Q rest (a.put o.dst r) w') : wpList Tryz.prog ops Q (o :: rest) a w := by
  refine wpList_plain hgd fun next hnext => ?_
  have hr : (execOp a.eval o).run Tryz.prog w = .ok (.enter fk (#[v, u] ++ ck)) w := by
    unfold execOp
    simp only [ho, resolve, hf, Deferred.ofValue, invoke, Sem.run_bind, Sem.run_pure, Result.andThen_ok, List.map_toArray, List.map_cons, List.map_nil, hx, hy]
    simpa using hcall (#[v, u] ++ ck) w
  unfold Oper.wp
  rw [hr, Oper.upon_enter]
  refine h.mono ?_
  rintro e w' ⟨⟨r, rfl⟩, hR⟩
  exact hnext _ _ (hK r w' hR)

def cmpI (a b : Int) : Int := if a < b then -1 else if b < a then 1 else 0
theorem compare_lt (a b : Int) (w : World) (h : a < b) : Calls Tryz.prog 83 #[.int .i64 a, .int .i64 b] w fun e w' => e = .returned (.int .i64 (-1)) ∧ w' = w := by
  go_enter Tryz.func83, Tryz.ntmps83
  go_wp2
  go_ret
  exact ⟨rfl, rfl⟩
theorem compare_gt (a b : Int) (w : World) (h : b < a) : Calls Tryz.prog 83 #[.int .i64 a, .int .i64 b] w fun e w' => e = .returned (.int .i64 1) ∧ w' = w := by
  have h1 : ¬ a < b := by omega
  go_enter Tryz.func83, Tryz.ntmps83
  go_wp2
  go_ret
  exact ⟨rfl, rfl⟩
theorem compare_eq (a b : Int) (w : World) (h : a = b) : Calls Tryz.prog 83 #[.int .i64 a, .int .i64 b] w fun e w' => e = .returned (.int .i64 0) ∧ w' = w := by
  subst h
  go_enter Tryz.func83, Tryz.ntmps83
  go_wp2
  go_ret
  exact ⟨rfl, rfl⟩
theorem compare_int (a b : Int) (w : World) : Calls Tryz.prog 83 #[.int .i64 a, .int .i64 b] w fun e w' => e = .returned (.int .i64 (cmpI a b)) ∧ w' = w := by
  unfold cmpI
  by_cases h1 : a < b
  · rw [if_pos h1]; exact compare_lt a b w h1
  · rw [if_neg h1]
    by_cases h2 : b < a
    · rw [if_pos h2]; exact compare_gt a b w h2
    · rw [if_neg h2]; exact compare_eq a b w (by omega)
end Go.Proofs.YtomcdhmcjndioaaGreatDoor
end
section
namespace Go.Proofs.YtomcdhmcjndioaaGreatDoor
open Go.RowKit
set_option linter.unusedVariables false

def fLo (k : Nat) : Int := ([65, 192, 216, 256, 306, 313, 330, 376, 377, 902, 904, 908, 910, 913, 931, 1024, 1040] : List Int).getD k 0
def fHi (k : Nat) : Int := ([90, 214, 222, 303, 311, 328, 375, 376, 382, 902, 906, 908, 911, 929, 939, 1039, 1071] : List Int).getD k 0
def fSt (k : Nat) : Int := ([1, 1, 1, 2, 2, 2, 2, 1, 2, 1, 1, 1, 1, 1, 1, 1, 1] : List Int).getD k 0
def fMo (k : Nat) : Int := ([32, 32, 32, 1, 1, 1, 1, -121, 1, 38, 37, 64, 63, 32, 32, 80, 32] : List Int).getD k 0
theorem fsorted : ∀ k, k < 17 → fLo k ≤ fHi k ∧ 0 ≤ fLo k ∧ fHi k ≤ 262143 ∧ ∀ j, j < k → fHi j < fLo k := by decide
theorem fmono (j k : Nat) (h : j ≤ k) (hk : k < 17) : fHi j ≤ fHi k := by
  rcases Nat.lt_or_ge j k with h1 | h1
  · have h2 := fsorted k hk
    have := h2.2.2.2 j h1; omega
  · have : j = k := by omega
    subst this; omega
/-- The table at an address of old memory. -/
def fCells (w : World) (B : Nat) (ad : Addr) : Prop := ad.block < B ∧ ∀ k, k < 17 → w.cell? (ad.add (k * 4)) = some (.int .i32 (fLo k)) ∧ w.cell? ⟨(ad.add (k * 4)).block, (ad.add (k * 4)).off + 1, none⟩ = some (.int .i32 (fHi k)) ∧ w.cell? ⟨(ad.add (k * 4)).block, (ad.add (k * 4)).off + 2, none⟩ = some (.int .i32 (fSt k)) ∧ w.cell? ⟨(ad.add (k * 4)).block, (ad.add (k * 4)).off + 3, none⟩ = some (.int .i32 (fMo k))
/-- The variable holds the table. -/
def fSpans (w : World) (B : Nat) : Prop := 3 < B ∧ ∃ ad c, w.cell? ⟨3, 0, none⟩ = some (.slice (some ad) 17 c) ∧ fCells w B ad
theorem fCells.below {w w' : World} {B : Nat} {ad : Addr} (h : fCells w B ad) (hb : Below B w w') : fCells w' B ad := by
  refine ⟨h.1, fun k hk => ?_⟩
  obtain ⟨c0, c1, c2, c3⟩ := h.2 k hk
  have hbl : (ad.add (k * 4)).block < B := by rw [add_block]; exact h.1
  exact ⟨(hb.cell hbl).trans c0, (hb.cell (p := ⟨(ad.add (k * 4)).block, (ad.add (k * 4)).off + 1, none⟩) hbl).trans c1, (hb.cell (p := ⟨(ad.add (k * 4)).block, (ad.add (k * 4)).off + 2, none⟩) hbl).trans c2, (hb.cell (p := ⟨(ad.add (k * 4)).block, (ad.add (k * 4)).off + 3, none⟩) hbl).trans c3⟩
theorem fCells.more {w : World} {B B' : Nat} {ad : Addr} (h : fCells w B ad) (hB : B ≤ B') : fCells w B' ad := ⟨Nat.lt_of_lt_of_le h.1 hB, h.2⟩
theorem fSpans.below {w w' : World} {B : Nat} (h : fSpans w B) (hb : Below B w w') : fSpans w' B := by
  obtain ⟨h0, ad, c, h1, h2⟩ := h
  exact ⟨h0, ad, c, (hb.cell (p := ⟨3, 0, none⟩) h0).trans h1, h2.below hb⟩
theorem fSpans.more {w : World} {B B' : Nat} (h : fSpans w B) (hB : B ≤ B') : fSpans w B' := by
  obtain ⟨h0, ad, c, h1, h2⟩ := h
  exact ⟨Nat.lt_of_lt_of_le h0 hB, ad, c, h1, h2.more hB⟩

theorem fcmp_lt (lo hi st mo r : Int) (w : World) (h : hi < r) : Calls Tryz.prog 105 #[.agg #[.int .i32 lo, .int .i32 hi, .int .i32 st, .int .i32 mo], .int .i32 r] w fun e w' => e = .returned (.int .i64 (-1)) ∧ Below w.heap.size w w' := by
  go_enter Tryz.func105, Tryz.ntmps105
  go_wp2
  go_ret
  exact ⟨rfl, (Below.refl _ _).alloc (Nat.le_refl _) _⟩
theorem fcmp_gt (lo hi st mo r : Int) (w : World) (h : ¬ hi < r) (h2 : r < lo) : Calls Tryz.prog 105 #[.agg #[.int .i32 lo, .int .i32 hi, .int .i32 st, .int .i32 mo], .int .i32 r] w fun e w' => e = .returned (.int .i64 1) ∧ Below w.heap.size w w' := by
  go_enter Tryz.func105, Tryz.ntmps105
  go_wp2
  go_ret
  exact ⟨rfl, (Below.refl _ _).alloc (Nat.le_refl _) _⟩
theorem fcmp_eq (lo hi st mo r : Int) (w : World) (h : ¬ hi < r) (h2 : ¬ r < lo) : Calls Tryz.prog 105 #[.agg #[.int .i32 lo, .int .i32 hi, .int .i32 st, .int .i32 mo], .int .i32 r] w fun e w' => e = .returned (.int .i64 0) ∧ Below w.heap.size w w' := by
  go_enter Tryz.func105, Tryz.ntmps105
  go_wp2
  go_ret
  exact ⟨rfl, (Below.refl _ _).alloc (Nat.le_refl _) _⟩

/-- Where the search ends. -/
def fPost (w : World) (r : Int) (e : Ending) (w' : World) : Prop := ∃ i : Nat, i ≤ 17 ∧ (∀ k, k < i → fHi k < r) ∧ (∀ k, i ≤ k → k < 17 → r ≤ fHi k) ∧ e = .returned (.tuple #[.int .i64 (i : Int), .bool (decide (i < 17 ∧ fLo i ≤ r))]) ∧ Below w.heap.size w w'
def fRel (w : World) (r : Int) (i j : Nat) (wr : World) : Prop := (∀ k, k < i → fHi k < r) ∧ (∀ k, j ≤ k → k < 17 → r ≤ fHi k) ∧ Below w.heap.size w wr
set_option maxRecDepth 100000 in
set_option maxHeartbeats 4000000 in
theorem fsearch (ad : Addr) (c : Nat) (r : Int) (w : World) (h : fCells w w.heap.size ad) : Calls Tryz.prog 104 #[.slice (some ad) 17 c, .int .i32 r, .func (.func 105) #[] #[]] w (fPost w r) := by
  have H := Lib.hid h
  clear h
  go_enter Tryz.func104, Tryz.ntmps104
  go_wp2
  go_loopw [9, 10] (fun a b wr => ∃ i j : Nat, i ≤ j ∧ j ≤ 17 ∧ a = .int .i64 (i : Int) ∧ b = .int .i64 (j : Int) ∧ Hid (fRel w r i j wr)) (fun a b _ => (intOf b).toNat - (intOf a).toNat)
  case atStart => exact ⟨0, 17, by omega, Nat.le_refl _, rfl, rfl, fun k hk => by omega, fun k h1 h2 => by omega, Below.refl _ _⟩
  case round =>
    obtain ⟨i, j, hij, hj, rfl, rfl, HR⟩ := hrel
    have hsz := HR.out.2.2.size
    by_cases hlt : i < j
    · have hi2 : (i : Int) < (j : Int) := by omega
      have hmi : i ≤ (i + j) / 2 := by omega
      have hmj : (i + j) / 2 < j := by omega
      have hmn : (i + j) / 2 < 17 := by omega
      obtain ⟨c0, c1, c2, c3⟩ := ((H.out.below HR.out.2.2).2 ((i + j) / 2) hmn)
      have HSRT := Lib.hid (fsorted ((i + j) / 2) hmn)
      by_cases hlt2 : fHi ((i + j) / 2) < r
      · have HL := Lib.hid hlt2
        clear hlt2
        go_wp2_with fail
        refine (fcmp_lt (fLo ((i + j) / 2)) (fHi ((i + j) / 2)) (fSt ((i + j) / 2)) (fMo ((i + j) / 2)) r _ (by have := HL.out; omega)).mono ?_
        rintro e w3 ⟨rfl, hb3⟩
        have HF := Lib.hid (show fRel w r ((i + j) / 2 + 1) j w3 from ⟨fun k hk => by
          have := fmono k ((i + j) / 2) (by omega) hmn
          have := HL.out
          omega, HR.out.2.1, HR.out.2.2.trans (hb3.mono hsz)⟩)
        clear hb3
        go_wp2
        go_roundw
        case rel => exact ⟨(i + j) / 2 + 1, j, by omega, hj, int_eq (by omega), rfl, HF.out⟩
        case measure => simp [intOf] <;> omega
      · have HL := Lib.hid hlt2
        have HF : Hid (∀ w3, Below wr.heap.size wr w3 → fRel w r i ((i + j) / 2) w3) := fun w3 hb3 => ⟨HR.out.1, fun k h1 h2 => by
          have := fmono ((i + j) / 2) k h1 h2
          have := HL.out
          omega, HR.out.2.2.trans (hb3.mono hsz)⟩
        clear hlt2
        by_cases hgt : r < fLo ((i + j) / 2)
        · have HG := Lib.hid hgt
          clear hgt
          go_wp2_with fail
          refine (fcmp_gt (fLo ((i + j) / 2)) (fHi ((i + j) / 2)) (fSt ((i + j) / 2)) (fMo ((i + j) / 2)) r _ (by have := HL.out; omega) (by have := HG.out; omega)).mono ?_
          rintro e w3 ⟨rfl, hb3⟩
          have HF2 := Lib.hid (HF.out w3 hb3)
          clear hb3
          go_wp2
          go_roundw
          case rel => exact ⟨i, (i + j) / 2, hmi, by omega, rfl, int_eq (by omega), HF2.out⟩
          case measure => simp [intOf] <;> omega
        · have HG := Lib.hid hgt
          clear hgt
          go_wp2_with fail
          refine (fcmp_eq (fLo ((i + j) / 2)) (fHi ((i + j) / 2)) (fSt ((i + j) / 2)) (fMo ((i + j) / 2)) r _ (by have := HL.out; omega) (by have := HG.out; omega)).mono ?_
          rintro e w3 ⟨rfl, hb3⟩
          have HF2 := Lib.hid (HF.out w3 hb3)
          clear hb3
          go_wp2
          go_roundw
          case rel => exact ⟨i, (i + j) / 2, hmi, by omega, rfl, int_eq (by omega), HF2.out⟩
          case measure => simp [intOf] <;> omega
    · obtain rfl : i = j := by omega
      by_cases hin : i < 17
      · have hi2 : (i : Int) < 17 := by omega
        obtain ⟨c0, c1, c2, c3⟩ := ((H.out.below HR.out.2.2).2 i hin)
        have hle := HR.out.2.1 i (Nat.le_refl _) hin
        have HL := Lib.hid (show ¬ fHi i < r by omega)
        clear hle
        by_cases hgt : r < fLo i
        · have HG := Lib.hid hgt
          have HD := Lib.hid (show decide (i < 17 ∧ fLo i ≤ r) = false from decide_eq_false (by omega))
          clear hgt
          go_wp2_with fail
          refine (fcmp_gt (fLo i) (fHi i) (fSt i) (fMo i) r _ (by have := HL.out; omega) (by have := HG.out; omega)).mono ?_
          rintro e w3 ⟨rfl, hb3⟩
          have HF2 := Lib.hid (HR.out.2.2.trans (hb3.mono hsz))
          clear hb3
          go_wp2
          go_ret2
          exact ⟨i, hj, HR.out.1, HR.out.2.1, by rw [HD.out]; rfl, HF2.out⟩
        · have HG := Lib.hid hgt
          have HD := Lib.hid (show decide (i < 17 ∧ fLo i ≤ r) = true from decide_eq_true (by omega))
          clear hgt
          go_wp2_with fail
          refine (fcmp_eq (fLo i) (fHi i) (fSt i) (fMo i) r _ (by have := HL.out; omega) (by have := HG.out; omega)).mono ?_
          rintro e w3 ⟨rfl, hb3⟩
          have HF2 := Lib.hid (HR.out.2.2.trans (hb3.mono hsz))
          clear hb3
          go_wp2
          go_ret2
          exact ⟨i, hj, HR.out.1, HR.out.2.1, by rw [HD.out]; rfl, HF2.out⟩
      · have hi2 : ¬ (i : Int) < 17 := by omega
        have HD := Lib.hid (show decide (i < 17 ∧ fLo i ≤ r) = false from decide_eq_false (by omega))
        go_wp2
        go_ret2
        exact ⟨i, hj, HR.out.1, HR.out.2.1, by rw [HD.out]; rfl, HR.out.2.2⟩
end Go.Proofs.YtomcdhmcjndioaaGreatDoor
end
section
namespace Go.Proofs.YtomcdhmcjndioaaGreatDoor
open Go.RowKit
set_option linter.unusedVariables false

def kLo (k : Nat) : Int := ([215, 247, 8192, 11904, 12288, 12353, 12549, 12593, 13312, 19968, 44032, 55296, 63744, 65024, 65072, 65280, 65520, 126976, 131072] : List Int).getD k 0
def kHi (k : Nat) : Int := ([215, 247, 11263, 12255, 12351, 12543, 12591, 12686, 19903, 40959, 55203, 63743, 64255, 65039, 65135, 65295, 65535, 129791, 262143] : List Int).getD k 0
def kKd (k : Nat) : Int := ([0, 0, 0, 2, 0, 2, 2, 2, 2, 2, 2, 0, 2, 0, 0, 0, 0, 0, 2] : List Int).getD k 0
theorem ksorted : ∀ k, k < 19 → kLo k ≤ kHi k ∧ 0 ≤ kLo k ∧ kHi k ≤ 262143 ∧ ∀ j, j < k → kHi j < kLo k := by decide
theorem kmono (j k : Nat) (h : j ≤ k) (hk : k < 19) : kHi j ≤ kHi k := by
  rcases Nat.lt_or_ge j k with h1 | h1
  · have h2 := ksorted k hk
    have := h2.2.2.2 j h1; omega
  · have : j = k := by omega
    subst this; omega
/-- The table at an address of old memory. -/
def kCells (w : World) (B : Nat) (ad : Addr) : Prop := ad.block < B ∧ ∀ k, k < 19 → w.cell? (ad.add (k * 3)) = some (.int .i64 (kLo k)) ∧ w.cell? ⟨(ad.add (k * 3)).block, (ad.add (k * 3)).off + 1, none⟩ = some (.int .i64 (kHi k)) ∧ w.cell? ⟨(ad.add (k * 3)).block, (ad.add (k * 3)).off + 2, none⟩ = some (.int .i64 (kKd k))
/-- The variable holds the table. -/
def kSpans (w : World) (B : Nat) : Prop := 1 < B ∧ ∃ ad c, w.cell? ⟨1, 0, none⟩ = some (.slice (some ad) 19 c) ∧ kCells w B ad
theorem kCells.below {w w' : World} {B : Nat} {ad : Addr} (h : kCells w B ad) (hb : Below B w w') : kCells w' B ad := by
  refine ⟨h.1, fun k hk => ?_⟩
  obtain ⟨c0, c1, c2⟩ := h.2 k hk
  have hbl : (ad.add (k * 3)).block < B := by rw [add_block]; exact h.1
  exact ⟨(hb.cell hbl).trans c0, (hb.cell (p := ⟨(ad.add (k * 3)).block, (ad.add (k * 3)).off + 1, none⟩) hbl).trans c1, (hb.cell (p := ⟨(ad.add (k * 3)).block, (ad.add (k * 3)).off + 2, none⟩) hbl).trans c2⟩
theorem kCells.more {w : World} {B B' : Nat} {ad : Addr} (h : kCells w B ad) (hB : B ≤ B') : kCells w B' ad := ⟨Nat.lt_of_lt_of_le h.1 hB, h.2⟩
theorem kSpans.below {w w' : World} {B : Nat} (h : kSpans w B) (hb : Below B w w') : kSpans w' B := by
  obtain ⟨h0, ad, c, h1, h2⟩ := h
  exact ⟨h0, ad, c, (hb.cell (p := ⟨1, 0, none⟩) h0).trans h1, h2.below hb⟩
theorem kSpans.more {w : World} {B B' : Nat} (h : kSpans w B) (hB : B ≤ B') : kSpans w B' := by
  obtain ⟨h0, ad, c, h1, h2⟩ := h
  exact ⟨Nat.lt_of_lt_of_le h0 hB, ad, c, h1, h2.more hB⟩

theorem kcmp_lt (lo hi kd r : Int) (w : World) (h : hi < r) (h2 : lo ≤ hi) : Calls Tryz.prog 82 #[.agg #[.int .i64 lo, .int .i64 hi, .int .i64 kd], .int .i64 r] w fun e w' => e = .returned (.int .i64 (-1)) ∧ Below w.heap.size w w' := by
  have h3 : lo ≤ r := by omega
  have h4 : ¬ r ≤ hi := by omega
  have h5 : lo < r := by omega
  go_enter Tryz.func82, Tryz.ntmps82
  go_wp2_with fail
  refine (compare_lt lo r _ h5).mono ?_
  rintro e w1 ⟨rfl, rfl⟩
  go_wp2
  go_ret
  exact ⟨rfl, (Below.refl _ _).alloc (Nat.le_refl _) _⟩
theorem kcmp_gt (lo hi kd r : Int) (w : World) (h : r < lo) : Calls Tryz.prog 82 #[.agg #[.int .i64 lo, .int .i64 hi, .int .i64 kd], .int .i64 r] w fun e w' => e = .returned (.int .i64 1) ∧ Below w.heap.size w w' := by
  have h3 : ¬ lo ≤ r := by omega
  go_enter Tryz.func82, Tryz.ntmps82
  go_wp2_with fail
  refine (compare_gt lo r _ h).mono ?_
  rintro e w1 ⟨rfl, rfl⟩
  go_wp2
  go_ret
  exact ⟨rfl, (Below.refl _ _).alloc (Nat.le_refl _) _⟩
theorem kcmp_eq (lo hi kd r : Int) (w : World) (h : ¬ hi < r) (h2 : ¬ r < lo) : Calls Tryz.prog 82 #[.agg #[.int .i64 lo, .int .i64 hi, .int .i64 kd], .int .i64 r] w fun e w' => e = .returned (.int .i64 0) ∧ Below w.heap.size w w' := by
  have h3 : lo ≤ r := by omega
  have h4 : r ≤ hi := by omega
  go_enter Tryz.func82, Tryz.ntmps82
  go_wp2
  go_ret
  exact ⟨rfl, (Below.refl _ _).alloc (Nat.le_refl _) _⟩

/-- Where the search ends. -/
def kPost (w : World) (r : Int) (e : Ending) (w' : World) : Prop := ∃ i : Nat, i ≤ 19 ∧ (∀ k, k < i → kHi k < r) ∧ (∀ k, i ≤ k → k < 19 → r ≤ kHi k) ∧ e = .returned (.tuple #[.int .i64 (i : Int), .bool (decide (i < 19 ∧ kLo i ≤ r))]) ∧ Below w.heap.size w w'
def kRel (w : World) (r : Int) (i j : Nat) (wr : World) : Prop := (∀ k, k < i → kHi k < r) ∧ (∀ k, j ≤ k → k < 19 → r ≤ kHi k) ∧ Below w.heap.size w wr
set_option maxRecDepth 100000 in
set_option maxHeartbeats 4000000 in
theorem ksearch (ad : Addr) (c : Nat) (r : Int) (w : World) (h : kCells w w.heap.size ad) : Calls Tryz.prog 81 #[.slice (some ad) 19 c, .int .i64 r, .func (.func 82) #[] #[]] w (kPost w r) := by
  have H := Lib.hid h
  clear h
  go_enter Tryz.func81, Tryz.ntmps81
  go_wp2
  go_loopw [9, 10] (fun a b wr => ∃ i j : Nat, i ≤ j ∧ j ≤ 19 ∧ a = .int .i64 (i : Int) ∧ b = .int .i64 (j : Int) ∧ Hid (kRel w r i j wr)) (fun a b _ => (intOf b).toNat - (intOf a).toNat)
  case atStart => exact ⟨0, 19, by omega, Nat.le_refl _, rfl, rfl, fun k hk => by omega, fun k h1 h2 => by omega, Below.refl _ _⟩
  case round =>
    obtain ⟨i, j, hij, hj, rfl, rfl, HR⟩ := hrel
    have hsz := HR.out.2.2.size
    by_cases hlt : i < j
    · have hi2 : (i : Int) < (j : Int) := by omega
      have hmi : i ≤ (i + j) / 2 := by omega
      have hmj : (i + j) / 2 < j := by omega
      have hmn : (i + j) / 2 < 19 := by omega
      obtain ⟨c0, c1, c2⟩ := ((H.out.below HR.out.2.2).2 ((i + j) / 2) hmn)
      have HSRT := Lib.hid (ksorted ((i + j) / 2) hmn)
      by_cases hlt2 : kHi ((i + j) / 2) < r
      · have HL := Lib.hid hlt2
        clear hlt2
        go_wp2_with fail
        refine (kcmp_lt (kLo ((i + j) / 2)) (kHi ((i + j) / 2)) (kKd ((i + j) / 2)) r _ (by have := HL.out; omega) HSRT.out.1).mono ?_
        rintro e w3 ⟨rfl, hb3⟩
        have HF := Lib.hid (show kRel w r ((i + j) / 2 + 1) j w3 from ⟨fun k hk => by
          have := kmono k ((i + j) / 2) (by omega) hmn
          have := HL.out
          omega, HR.out.2.1, HR.out.2.2.trans (hb3.mono hsz)⟩)
        clear hb3
        go_wp2
        go_roundw
        case rel => exact ⟨(i + j) / 2 + 1, j, by omega, hj, int_eq (by omega), rfl, HF.out⟩
        case measure => simp [intOf] <;> omega
      · have HL := Lib.hid hlt2
        have HF : Hid (∀ w3, Below wr.heap.size wr w3 → kRel w r i ((i + j) / 2) w3) := fun w3 hb3 => ⟨HR.out.1, fun k h1 h2 => by
          have := kmono ((i + j) / 2) k h1 h2
          have := HL.out
          omega, HR.out.2.2.trans (hb3.mono hsz)⟩
        clear hlt2
        by_cases hgt : r < kLo ((i + j) / 2)
        · have HG := Lib.hid hgt
          clear hgt
          go_wp2_with fail
          refine (kcmp_gt (kLo ((i + j) / 2)) (kHi ((i + j) / 2)) (kKd ((i + j) / 2)) r _ (by have := HG.out; omega)).mono ?_
          rintro e w3 ⟨rfl, hb3⟩
          have HF2 := Lib.hid (HF.out w3 hb3)
          clear hb3
          go_wp2
          go_roundw
          case rel => exact ⟨i, (i + j) / 2, hmi, by omega, rfl, int_eq (by omega), HF2.out⟩
          case measure => simp [intOf] <;> omega
        · have HG := Lib.hid hgt
          clear hgt
          go_wp2_with fail
          refine (kcmp_eq (kLo ((i + j) / 2)) (kHi ((i + j) / 2)) (kKd ((i + j) / 2)) r _ (by have := HL.out; omega) (by have := HG.out; omega)).mono ?_
          rintro e w3 ⟨rfl, hb3⟩
          have HF2 := Lib.hid (HF.out w3 hb3)
          clear hb3
          go_wp2
          go_roundw
          case rel => exact ⟨i, (i + j) / 2, hmi, by omega, rfl, int_eq (by omega), HF2.out⟩
          case measure => simp [intOf] <;> omega
    · obtain rfl : i = j := by omega
      by_cases hin : i < 19
      · have hi2 : (i : Int) < 19 := by omega
        obtain ⟨c0, c1, c2⟩ := ((H.out.below HR.out.2.2).2 i hin)
        have hle := HR.out.2.1 i (Nat.le_refl _) hin
        have HL := Lib.hid (show ¬ kHi i < r by omega)
        clear hle
        by_cases hgt : r < kLo i
        · have HG := Lib.hid hgt
          have HD := Lib.hid (show decide (i < 19 ∧ kLo i ≤ r) = false from decide_eq_false (by omega))
          clear hgt
          go_wp2_with fail
          refine (kcmp_gt (kLo i) (kHi i) (kKd i) r _ (by have := HG.out; omega)).mono ?_
          rintro e w3 ⟨rfl, hb3⟩
          have HF2 := Lib.hid (HR.out.2.2.trans (hb3.mono hsz))
          clear hb3
          go_wp2
          go_ret2
          exact ⟨i, hj, HR.out.1, HR.out.2.1, by rw [HD.out]; rfl, HF2.out⟩
        · have HG := Lib.hid hgt
          have HD := Lib.hid (show decide (i < 19 ∧ kLo i ≤ r) = true from decide_eq_true (by omega))
          clear hgt
          go_wp2_with fail
          refine (kcmp_eq (kLo i) (kHi i) (kKd i) r _ (by have := HL.out; omega) (by have := HG.out; omega)).mono ?_
          rintro e w3 ⟨rfl, hb3⟩
          have HF2 := Lib.hid (HR.out.2.2.trans (hb3.mono hsz))
          clear hb3
          go_wp2
          go_ret2
          exact ⟨i, hj, HR.out.1, HR.out.2.1, by rw [HD.out]; rfl, HF2.out⟩
      · have hi2 : ¬ (i : Int) < 19 := by omega
        have HD := Lib.hid (show decide (i < 19 ∧ kLo i ≤ r) = false from decide_eq_false (by omega))
        go_wp2
        go_ret2
        exact ⟨i, hj, HR.out.1, HR.out.2.1, by rw [HD.out]; rfl, HR.out.2.2⟩
end Go.Proofs.YtomcdhmcjndioaaGreatDoor
end
section
namespace Go.Proofs.YtomcdhmcjndioaaGreatDoor
open Go.ChangeShapes Go.WideShapes Go.ChangeAt Go.RowKit Go.Deep
set_option linter.unusedVariables false

theorem own_ : ownKnob Tryz.prog.godebug = none := by kernel_rfl
theorem gFold : Tryz.prog.globalNamed "pouch/fold.spans" = some 3 := by kernel_rfl
theorem gCut : Tryz.prog.globalNamed "pouch/cut.spans" = some 1 := by kernel_rfl
theorem tFold : (Tryz.prog.globals[(3 : Nat)]?).map (·.type) = some 131 := by kernel_rfl
theorem tCut : (Tryz.prog.globals[(1 : Nat)]?).map (·.type) = some 113 := by kernel_rfl
theorem cellsF : Tryz.prog.cellsOf 133 = 4 := by kernel_rfl
theorem cellsC : Tryz.prog.cellsOf 115 = 3 := by kernel_rfl
theorem cells_i32 : Tryz.prog.cellsOf 21 = 1 := by kernel_rfl
theorem cells_i64 : Tryz.prog.cellsOf 3 = 1 := by kernel_rfl
def laid2 : List (String × (∀ {H : Type}, DataW H)) := []
section
variable {H : Type} {enc : TypeId × Value → H} {w : World} {spare : Nat → Bool} {held : Bool}
set_option maxRecDepth 100000 in
theorem span_f {fuel : Nat} {cs : List Value} {p : List MemPlace} {a b c d : Int} (hcl : cs.length = 4) (h : DataW.trod enc Tryz.prog w 0 spare held fuel 133 cs = some (.agg [.lit (.int .i32 a), .lit (.int .i32 b), .lit (.int .i32 c), .lit (.int .i32 d)], p)) :
    cs = [.int .i32 a, .int .i32 b, .int .i32 c, .int .i32 d] := by
  obtain ⟨xs, n, _, hx, _, hxl, hf⟩ := DataW.trod_struct Tryz.underlying133 h
  match cs, hcl with
  | [c0, c1, c2, c3], _ =>
    have hx0 : DataW.trod enc Tryz.prog w 0 spare held n 21 (([c0, c1, c2, c3].drop 0).take (Tryz.prog.cellsOf 21)) = xs[0]? := hf 0 _ rfl
    have hx1 : DataW.trod enc Tryz.prog w 0 spare held n 21 (([c0, c1, c2, c3].drop 1).take (Tryz.prog.cellsOf 21)) = xs[1]? := hf 1 _ rfl
    have hx2 : DataW.trod enc Tryz.prog w 0 spare held n 21 (([c0, c1, c2, c3].drop 2).take (Tryz.prog.cellsOf 21)) = xs[2]? := hf 2 _ rfl
    have hx3 : DataW.trod enc Tryz.prog w 0 spare held n 21 (([c0, c1, c2, c3].drop 3).take (Tryz.prog.cellsOf 21)) = xs[3]? := hf 3 _ rfl
    rw [cells_i32] at hx0 hx1 hx2 hx3
    match xs, hxl, hx with
    | [x0, x1, x2, x3], _, hx =>
      simp only [List.map_cons, List.map_nil, Prod.mk.injEq, DataW.agg.injEq, List.cons.injEq, and_true] at hx
      obtain ⟨⟨e0, e1, e2, e3⟩, _⟩ := hx
      obtain ⟨m0, f0, g0, _⟩ := DataW.trod_int Tryz.underlying21 (show DataW.trod enc Tryz.prog w 0 spare held n 21 [c0] = some x0 from hx0)
      obtain ⟨m1, f1, g1, _⟩ := DataW.trod_int Tryz.underlying21 (show DataW.trod enc Tryz.prog w 0 spare held n 21 [c1] = some x1 from hx1)
      obtain ⟨m2, f2, g2, _⟩ := DataW.trod_int Tryz.underlying21 (show DataW.trod enc Tryz.prog w 0 spare held n 21 [c2] = some x2 from hx2)
      obtain ⟨m3, f3, g3, _⟩ := DataW.trod_int Tryz.underlying21 (show DataW.trod enc Tryz.prog w 0 spare held n 21 [c3] = some x3 from hx3)
      rw [g0] at e0; rw [g1] at e1; rw [g2] at e2; rw [g3] at e3
      injection e0 with e0; injection e0 with _ e0
      injection e1 with e1; injection e1 with _ e1
      injection e2 with e2; injection e2 with _ e2
      injection e3 with e3; injection e3 with _ e3
      injection f0 with f0; injection f1 with f1; injection f2 with f2; injection f3 with f3
      rw [f0, f1, f2, f3, e0, e1, e2, e3]
set_option maxRecDepth 100000 in
theorem span_c {fuel : Nat} {cs : List Value} {p : List MemPlace} {a b c : Int} (hcl : cs.length = 3) (h : DataW.trod enc Tryz.prog w 0 spare held fuel 115 cs = some (.agg [.lit (.int .i64 a), .lit (.int .i64 b), .lit (.int .i64 c)], p)) :
    cs = [.int .i64 a, .int .i64 b, .int .i64 c] := by
  obtain ⟨xs, n, _, hx, _, hxl, hf⟩ := DataW.trod_struct Tryz.underlying115 h
  match cs, hcl with
  | [c0, c1, c2], _ =>
    have hx0 : DataW.trod enc Tryz.prog w 0 spare held n 3 (([c0, c1, c2].drop 0).take (Tryz.prog.cellsOf 3)) = xs[0]? := hf 0 _ rfl
    have hx1 : DataW.trod enc Tryz.prog w 0 spare held n 3 (([c0, c1, c2].drop 1).take (Tryz.prog.cellsOf 3)) = xs[1]? := hf 1 _ rfl
    have hx2 : DataW.trod enc Tryz.prog w 0 spare held n 3 (([c0, c1, c2].drop 2).take (Tryz.prog.cellsOf 3)) = xs[2]? := hf 2 _ rfl
    rw [cells_i64] at hx0 hx1 hx2
    match xs, hxl, hx with
    | [x0, x1, x2], _, hx =>
      simp only [List.map_cons, List.map_nil, Prod.mk.injEq, DataW.agg.injEq, List.cons.injEq, and_true] at hx
      obtain ⟨⟨e0, e1, e2⟩, _⟩ := hx
      obtain ⟨m0, f0, g0, _⟩ := DataW.trod_int Tryz.underlying3 (show DataW.trod enc Tryz.prog w 0 spare held n 3 [c0] = some x0 from hx0)
      obtain ⟨m1, f1, g1, _⟩ := DataW.trod_int Tryz.underlying3 (show DataW.trod enc Tryz.prog w 0 spare held n 3 [c1] = some x1 from hx1)
      obtain ⟨m2, f2, g2, _⟩ := DataW.trod_int Tryz.underlying3 (show DataW.trod enc Tryz.prog w 0 spare held n 3 [c2] = some x2 from hx2)
      rw [g0] at e0; rw [g1] at e1; rw [g2] at e2
      injection e0 with e0; injection e0 with _ e0
      injection e1 with e1; injection e1 with _ e1
      injection e2 with e2; injection e2 with _ e2
      injection f0 with f0; injection f1 with f1; injection f2 with f2
      rw [f0, f1, f2, e0, e1, e2]
theorem datum_f : (Rows.laid_pouch_fold_spans : DataW H) = .slice ((List.range 17).map fun k => .agg [.lit (.int .i32 (fLo k)), .lit (.int .i32 (fHi k)), .lit (.int .i32 (fSt k)), .lit (.int .i32 (fMo k))]) [] := rfl
theorem datum_c : (Rows.laid_pouch_cut_spans : DataW H) = .slice ((List.range 19).map fun k => .agg [.lit (.int .i64 (kLo k)), .lit (.int .i64 (kHi k)), .lit (.int .i64 (kKd k))]) [] := rfl
theorem range_map_eq {α : Type} {m n : Nat} {f g : Nat → α} (h : (List.range m).map f = (List.range n).map g) : m = n ∧ ∀ k, k < n → f k = g k := by
  have h1 : m = n := by have := congrArg List.length h; simpa using this
  subst h1
  refine ⟨rfl, fun k hk => ?_⟩
  have h2 : ((List.range m).map f)[k]? = ((List.range m).map g)[k]? := by rw [h]
  simpa [hk] using h2
set_option maxRecDepth 100000 in
theorem fold_in {fuel : Nat} {cs : List Value} {p : List MemPlace} (h : DataW.trod enc Tryz.prog w 0 spare held fuel 131 cs = some (Rows.laid_pouch_fold_spans, p)) : ∃ ad c, cs = [.slice (some ad) 17 c] ∧ fCells w w.heap.size ad := by
  rw [datum_f] at h
  rcases open_slice Tryz.underlying131 h with ⟨_, h0⟩ | ⟨a, len, cap, m, n, D, Pl, hcs, _, hl, hm, hmm, hx, hi⟩
  · simp at h0
  · simp only [Prod.mk.injEq, DataW.slice.injEq] at hx
    obtain ⟨h1, h2⟩ := range_map_eq hx.1.1.symm
    subst h1
    have hlm : 17 ≤ m := by rw [hmm]; split <;> omega
    refine ⟨a, cap, hcs, ?_, fun k hk => ?_⟩
    · obtain ⟨cs', hc, _⟩ := hi 0 (by omega)
      rw [cellsF] at hc
      obtain ⟨_, hcl, hat⟩ := World.cells?_some hc
      have := hat 0 (by omega)
      rw [Nat.zero_mul] at this
      have hb := World.block_lt_of_cell? w ((a.add 0).add 0) (show _ = some (cs'[0]'(by omega)) by rw [this]; exact List.getElem?_eq_getElem _)
      rw [add_block, add_block] at hb
      exact hb
    · obtain ⟨cs', hc, ht⟩ := hi k (by omega)
      rw [cellsF] at hc
      rw [h2 k hk] at ht
      obtain ⟨_, hcl, hat⟩ := World.cells?_some hc
      have e := span_f hcl ht
      subst e
      have a0 := hat 0 (by omega)
      have a1 := hat 1 (by omega)
      have a2 := hat 2 (by omega)
      have a3 := hat 3 (by omega)
      exact ⟨a0, a1, a2, a3⟩
set_option maxRecDepth 100000 in
theorem cut_in {fuel : Nat} {cs : List Value} {p : List MemPlace} (h : DataW.trod enc Tryz.prog w 0 spare held fuel 113 cs = some (Rows.laid_pouch_cut_spans, p)) : ∃ ad c, cs = [.slice (some ad) 19 c] ∧ kCells w w.heap.size ad := by
  rw [datum_c] at h
  rcases open_slice Tryz.underlying113 h with ⟨_, h0⟩ | ⟨a, len, cap, m, n, D, Pl, hcs, _, hl, hm, hmm, hx, hi⟩
  · simp at h0
  · simp only [Prod.mk.injEq, DataW.slice.injEq] at hx
    obtain ⟨h1, h2⟩ := range_map_eq hx.1.1.symm
    subst h1
    have hlm : 19 ≤ m := by rw [hmm]; split <;> omega
    refine ⟨a, cap, hcs, ?_, fun k hk => ?_⟩
    · obtain ⟨cs', hc, _⟩ := hi 0 (by omega)
      rw [cellsC] at hc
      obtain ⟨_, hcl, hat⟩ := World.cells?_some hc
      have := hat 0 (by omega)
      rw [Nat.zero_mul] at this
      have hb := World.block_lt_of_cell? w ((a.add 0).add 0) (show _ = some (cs'[0]'(by omega)) by rw [this]; exact List.getElem?_eq_getElem _)
      rw [add_block, add_block] at hb
      exact hb
    · obtain ⟨cs', hc, ht⟩ := hi k (by omega)
      rw [cellsC] at hc
      rw [h2 k hk] at ht
      obtain ⟨_, hcl, hat⟩ := World.cells?_some hc
      have e := span_c hcl ht
      subst e
      have a0 := hat 0 (by omega)
      have a1 := hat 1 (by omega)
      have a2 := hat 2 (by omega)
      exact ⟨a0, a1, a2⟩
end
end Go.Proofs.YtomcdhmcjndioaaGreatDoor
end
