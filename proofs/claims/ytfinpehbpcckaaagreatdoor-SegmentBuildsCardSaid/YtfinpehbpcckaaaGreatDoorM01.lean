/- Layer 2, plain: the encoding of integers, strings and lists; reading them back. Words for memory: a run of cells that reads as a list, kept by whatever leaves older blocks alone; integers that a slice owns; strings. Maps of the call's own, told key by key: kinds of keys, look-up, update, range. Kinds of keys: integers, spots (document and field), keys (field and word). The map of terms in memory: keys to maps from documents to rows of positions, all of the call's own. -/
import Derived.Lib.Hide
import Derived.Test.YtfinpehbpcckaaaGreatDoorProg
import Derived.ProofKit
import Derived.WalkKit
import Derived.WalkSpells
import Derived.WalkLawsBesides
import Derived.BigQuiet
import Derived.Deep.QuietTactic
import Derived.Deep.DeepCutAuto
import Derived.Deep.RegionWith
import Derived.Laws.OwnMore
import Derived.Deep.AppendLies
import Derived.Deep.Draws
import Derived.Maps.AppendAt
import Derived.OneCell
import Derived.ShutString
import Derived.Maps.RangeWalk
import Derived.Maps.OwnSet
import Derived.Maps.OwnOps
import Derived.Maps.Views
import Derived.WideKeyEntry
import Derived.DeepKeys4
section
namespace Go.Proofs.YtfinpehbpcckaaaGreatDoor
set_option linter.unusedVariables false

/-- The varint of a number. -/
def vnum (n : Nat) : List UInt8 := if h : n < 128 then [UInt8.ofNat n] else UInt8.ofNat (n % 128 + 128) :: vnum (n / 128)
termination_by n
theorem vnum_lt {n : Nat} (h : n < 128) : vnum n = [UInt8.ofNat n] := by rw [vnum]; simp [h]
theorem vnum_ge {n : Nat} (h : 128 ≤ n) : vnum n = UInt8.ofNat (n % 128 + 128) :: vnum (n / 128) := by rw [vnum]; simp [show ¬ n < 128 by omega]
def vint (n : Int) : List UInt8 := if n < 0 then [] else vnum n.toNat
theorem vint_nat (n : Nat) : vint (n : Int) = vnum n := by unfold vint; rw [if_neg (by omega)]; simp
theorem vint_neg {n : Int} (h : n < 0) : vint n = [] := by unfold vint; rw [if_pos h]
theorem vint_pos {n : Int} (h : 0 ≤ n) : vint n = vnum n.toNat := by unfold vint; rw [if_neg (by omega)]
theorem vnum_len : ∀ (k n : Nat), n < 128 ^ k → 1 ≤ k → (vnum n).length ≤ k
  | 0, n, h, hk => by omega
  | k + 1, n, h, _ => by
    by_cases hn : n < 128
    · rw [vnum_lt hn]; simp
    · rw [vnum_ge (by omega), List.length_cons]
      have h2 : n / 128 < 128 ^ k := by rw [Nat.pow_succ] at h; omega
      have hk : 1 ≤ k := by
        cases k with
        | zero => simp at h2; omega
        | succ k => omega
      have := vnum_len k (n / 128) h2 hk
      omega
theorem vint_len (n : Int) (h : n ≤ 9223372036854775807) : (vint n).length ≤ 9 := by
  unfold vint
  split
  · simp
  · exact vnum_len 9 _ (by have : (128 : Nat) ^ 9 = 9223372036854775808 := rfl; omega) (by omega)
def vtext (s : List UInt8) : List UInt8 := vnum s.length ++ s
def vints (l : List Int) : List UInt8 := vnum l.length ++ l.flatMap vint
theorem vints_len : ∀ l : List Int, (∀ x, x ∈ l → x ≤ 9223372036854775807) → (l.flatMap vint).length ≤ 9 * l.length
  | [], _ => by simp
  | a :: r, h => by
    have h1 := vint_len a (h a (by simp))
    have h2 := vints_len r fun x hx => h x (by simp [hx])
    simp only [List.flatMap_cons, List.length_append, List.length_cons]; omega

/-- How many bytes of 128 and more stand ahead. -/
def hi : List UInt8 → Nat
  | [] => 0
  | b :: r => if 128 ≤ b.toNat then hi r + 1 else 0
/-- The number that seven bits of each byte give. -/
def val : List UInt8 → Nat
  | [] => 0
  | b :: r => b.toNat % 128 + 128 * val r
theorem hi_le : ∀ l : List UInt8, hi l ≤ l.length
  | [] => Nat.le_refl _
  | b :: r => by unfold hi; split; exact Nat.succ_le_succ (hi_le r); exact Nat.zero_le _
theorem hi_ge : ∀ (l : List UInt8) (k : Nat) (hk : k < l.length), k < hi l → 128 ≤ l[k].toNat
  | [], k, hk, _ => by simp at hk
  | b :: r, k, hk, h => by
    unfold hi at h
    split at h
    · cases k with
      | zero => assumption
      | succ k => exact hi_ge r k (by simpa using hk) (by omega)
    · omega
theorem hi_at : ∀ (l : List UInt8) (hk : hi l < l.length), l[hi l].toNat < 128
  | [], hk => by simp [hi] at hk
  | b :: r, hk => by
    by_cases hb : 128 ≤ b.toNat
    · have e : hi (b :: r) = hi r + 1 := by simp [hi, hb]
      have := hi_at r (by rw [e] at hk; simpa using hk)
      simp only [e, List.getElem_cons_succ]; exact this
    · have e : hi (b :: r) = 0 := by simp [hi, hb]
      simp only [e, List.getElem_cons_zero]; omega
/-- A walk from byte to byte finds hi. -/
theorem hi_step {l : List UInt8} {k : Nat} (hk : k < l.length) (h : k ≤ hi l) : (128 ≤ l[k].toNat → k + 1 ≤ hi l) ∧ (l[k].toNat < 128 → k = hi l) := by
  constructor
  · intro hb
    rcases Nat.lt_or_ge k (hi l) with h1 | h1
    · omega
    · have e : k = hi l := by omega
      subst e
      have := hi_at l hk; omega
  · intro hb
    rcases Nat.lt_or_ge k (hi l) with h1 | h1
    · have := hi_ge l k hk h1; omega
    · omega
theorem val_append (a b : List UInt8) : val (a ++ b) = val a + 128 ^ a.length * val b := by
  induction a with
  | nil => simp [val]
  | cons x r ih =>
    simp only [List.cons_append, val, ih, List.length_cons, Nat.pow_succ, Nat.mul_add]
    rw [Nat.mul_comm (128 ^ r.length) 128, Nat.mul_assoc]; omega
theorem val_lt (l : List UInt8) : val l < 128 ^ l.length := by
  induction l with
  | nil => simp [val]
  | cons x r ih => simp only [val, List.length_cons, Nat.pow_succ]; omega
theorem take_snoc' {α : Type} {l : List α} {k : Nat} (hk : k < l.length) : l.take (k + 1) = l.take k ++ [l[k]] := List.take_succ_eq_append_getElem hk
theorem val_take {l : List UInt8} {k : Nat} (hk : k < l.length) : val (l.take (k + 1)) = val (l.take k) + 128 ^ k * (l[k].toNat % 128) := by
  rw [take_snoc' hk, val_append, List.length_take, Nat.min_eq_left (by omega)]
  simp [val]
theorem drop_cons' {α : Type} {l : List α} {k : Nat} (hk : k < l.length) : l.drop k = l[k] :: l.drop (k + 1) := List.drop_eq_getElem_cons hk
/-- A number ahead, and what follows. -/
def rnum (l : List UInt8) : Option (Nat × List UInt8) :=
  if h : hi l < l.length then (if hi l ≤ 8 ∧ (hi l = 0 ∨ l[hi l].toNat ≠ 0) then some (val (l.take (hi l + 1)), l.drop (hi l + 1)) else none) else none
theorem rnum_some {l : List UInt8} (h : hi l < l.length) (h8 : hi l ≤ 8) (h0 : hi l = 0 ∨ l[hi l].toNat ≠ 0) : rnum l = some (val (l.take (hi l + 1)), l.drop (hi l + 1)) := by
  unfold rnum; rw [dif_pos h, if_pos ⟨h8, h0⟩]
theorem rnum_short {l : List UInt8} (h : l.length ≤ hi l) : rnum l = none := by unfold rnum; rw [dif_neg (by omega)]
theorem rnum_long {l : List UInt8} (h : 8 < hi l) : rnum l = none := by
  unfold rnum; split
  · rw [if_neg (by omega)]
  · rfl
theorem rnum_zero {l : List UInt8} (h : hi l < l.length) (h1 : hi l ≠ 0) (h0 : l[hi l].toNat = 0) : rnum l = none := by
  unfold rnum; rw [dif_pos h, if_neg (by omega)]
theorem rnum_bound {l t : List UInt8} {n : Nat} (h : rnum l = some (n, t)) : n < 9223372036854775808 ∧ t.length < l.length := by
  unfold rnum at h
  split at h
  · rename_i h1
    split at h
    · rename_i h2
      injection h with h
      injection h with e1 e2
      subst e1; subst e2
      refine ⟨?_, by rw [List.length_drop]; omega⟩
      have h3 := val_lt (l.take (hi l + 1))
      rw [List.length_take, Nat.min_eq_left (by omega)] at h3
      refine Nat.lt_of_lt_of_le h3 ?_
      have : (128 : Nat) ^ (hi l + 1) ≤ 128 ^ 9 := Nat.pow_le_pow_right (by omega) (by omega)
      have e : (128 : Nat) ^ 9 = 9223372036854775808 := rfl
      omega
    · cases h
  · cases h

/-- A reader: what is unread, and whether it has failed. -/
structure Rd where
  s : List UInt8
  bad : Bool
def Rd.fails : Rd := ⟨[], true⟩
def Rd.num (r : Rd) : Nat × Rd := match rnum r.s with
  | some (n, t) => (n, ⟨t, r.bad⟩)
  | none => (0, Rd.fails)
def Rd.take (r : Rd) (n : Int) : List UInt8 × Rd := if n < 0 ∨ (r.s.length : Int) < n ∨ r.bad = true then ([], Rd.fails) else (r.s.take n.toNat, ⟨r.s.drop n.toNat, r.bad⟩)
def Rd.text (r : Rd) : List UInt8 × Rd := r.num.2.take r.num.1
def Rd.loop : Nat → Rd → List Int → List Int × Rd
  | 0, r, out => (out, r)
  | k + 1, r, out => if r.num.2.bad = true then ([], r.num.2) else Rd.loop k r.num.2 (out ++ [(r.num.1 : Int)])
def Rd.nums (r : Rd) : List Int × Rd := if r.num.2.s.length < r.num.1 then ([], Rd.fails) else if r.num.2.bad = true then ([], r.num.2) else Rd.loop r.num.1 r.num.2 []
def Rd.done (r : Rd) : Bool := !r.bad && r.s.isEmpty
theorem Rd.num_bound (r : Rd) : r.num.1 < 9223372036854775808 ∧ r.num.2.s.length ≤ r.s.length := by
  unfold Rd.num
  cases h : rnum r.s with
  | none => exact ⟨by show 0 < _; omega, Nat.zero_le _⟩
  | some p => have := rnum_bound (n := p.1) (t := p.2) h; exact ⟨this.1, by show p.2.length ≤ _; omega⟩

end Go.Proofs.YtfinpehbpcckaaaGreatDoor
end
section
namespace Go.Proofs.YtfinpehbpcckaaaGreatDoor
open Go.RowKit
set_option linter.unusedVariables false

theorem add_block (a : Addr) (n : Nat) : (a.add n).block = a.block := by unfold Addr.add; split <;> rfl
theorem add_add' (a : Addr) (i j : Nat) : (a.add i).add j = a.add (i + j) := by
  unfold Addr.add
  by_cases hi : i = 0 <;> by_cases hj : j = 0 <;> simp [hi, hj, Nat.add_assoc]

/-- The cells 'xs' lie from 'A' on, in a block below B. -/
def Run (w : World) (B : Nat) (A : Option Addr) (xs : List Value) : Prop :=
  xs = [] ∨ ∃ ad, A = some ad ∧ ad.block < B ∧ ∀ j u, xs[j]? = some u → w.cell? (ad.add j) = some u

section
variable {w w' : World} {B B' : Nat} {A : Option Addr} {xs : List Value}
theorem Run.nil_ : Run w B A [] := .inl rfl
theorem Run.at_ {k : Nat} (h : Run w B A xs) (hk : k < xs.length) : ∃ ad u, A = some ad ∧ ad.block < B ∧ xs[k]? = some u ∧ w.cell? (ad.add k) = some u := by
  rcases h with rfl | ⟨ad, e, hb, hc⟩
  · simp at hk
  · exact ⟨ad, xs[k], e, hb, List.getElem?_eq_getElem hk, hc k _ (List.getElem?_eq_getElem hk)⟩
theorem Run.keep (h : Run w B A xs) (hk : ∀ p : Addr, p.block < B → w'.cell? p = w.cell? p) : Run w' B A xs := by
  rcases h with h | ⟨ad, e, hb, hc⟩
  · exact .inl h
  · exact .inr ⟨ad, e, hb, fun j u hu => (hk _ (by rw [add_block]; exact hb)).trans (hc j u hu)⟩
theorem Run.more (h : Run w B A xs) (hB : B ≤ B') : Run w B' A xs := by
  rcases h with h | ⟨ad, e, hb, hc⟩
  · exact .inl h
  · exact .inr ⟨ad, e, by omega, hc⟩
theorem Run.below (h : Run w B A xs) (hb : Below B w w') : Run w' B A xs := h.keep fun _ hp => hb.cell hp
theorem Run.drew (h : Run w B A xs) : Run w.drew B A xs := h
theorem Run.drewN (h : Run w B A xs) (k : Nat) : Run (w.drewN k) B A xs := h
theorem Run.cut (h : Run w B A xs) {k cap : Nat} (hc : xs.length ≤ cap) :
    Run w B (if cap = k then A else A.map (·.add k)) (xs.drop k) := by
  rcases h with rfl | ⟨ad, rfl, hb, hcell⟩
  · exact .inl (by simp)
  · by_cases hk : xs.length ≤ k
    · exact .inl (by simp [hk])
    · rw [if_neg (by omega)]
      refine .inr ⟨ad.add k, rfl, by rw [add_block]; exact hb, fun j u hu => ?_⟩
      rw [add_add']
      exact hcell _ u (by rw [← hu, List.getElem?_drop])
theorem Run.take (h : Run w B A xs) (k : Nat) : Run w B A (xs.take k) := by
  rcases h with rfl | ⟨ad, rfl, hb, hcell⟩
  · exact .inl (by simp)
  · refine .inr ⟨ad, rfl, hb, fun j u hu => hcell j u ?_⟩
    rw [List.getElem?_take] at hu
    split at hu
    · exact hu
    · cases hu
theorem Run.of_own {base size n : Nat} {e : TypeId} {c : Nat} (h : w.ownsRow base e size (.slice A n c) n xs) : Run w w.heap.size A xs := by
  by_cases hn : n = 0
  · have := h.1; rw [hn] at this; exact .inl (List.eq_nil_of_length_eq_zero (by simpa using this))
  · obtain ⟨g, cap, hv, _, hlt⟩ := h.form (by omega)
    have hA : A = some ⟨g, 0, none⟩ := by injection hv
    subst hA
    exact .inr ⟨_, rfl, hlt, h.cells (g := g) rfl⟩
end

/-- Integers as values, and the bounds that an int of Go keeps. -/
def iv (l : List Int) : List Value := l.map (Value.int .i64)
/-- Element k (0 beyond the end), under a name that simp leaves alone. -/
def gi (l : List Int) (k : Nat) : Int := l.getD k 0
theorem gi_get {l : List Int} {k : Nat} (h : k < l.length) : gi l k = l[k] := by simp [gi, h]
def I64s (l : List Int) : Prop := ∀ x ∈ l, -9223372036854775808 ≤ x ∧ x ≤ 9223372036854775807
/-- 'A' with 'n' places reads as the integers 'l'. -/
def Ints (w : World) (B : Nat) (A : Option Addr) (n : Nat) (l : List Int) : Prop := n = l.length ∧ I64s l ∧ Run w B A (iv l)

section
variable {w w' : World} {B B' n : Nat} {A : Option Addr} {l : List Int}
theorem Ints.at_ {k : Nat} (h : Ints w B A n l) (hk : k < n) : ∃ ad, A = some ad ∧ ad.block < B ∧ w.cell? (ad.add k) = some (.int .i64 (gi l k)) := by
  obtain ⟨rfl, _, hr⟩ := h
  obtain ⟨ad, u, e, hb, hx, hc⟩ := hr.at_ (k := k) (by simpa [iv] using hk)
  refine ⟨ad, e, hb, ?_⟩
  rw [hc, ← hx]
  simp [iv, hk, gi]
theorem Ints.len (h : Ints w B A n l) : l.length = n := h.1.symm
theorem Ints.bounds (h : Ints w B A n l) (k : Nat) : -9223372036854775808 ≤ gi l k ∧ gi l k ≤ 9223372036854775807 := by
  unfold gi
  by_cases hk : k < l.length
  · have := h.2.1 (l[k]) (List.getElem_mem hk)
    simpa [List.getD_eq_getElem?_getD, List.getElem?_eq_getElem hk] using this
  · rw [List.getD_eq_getElem?_getD, List.getElem?_eq_none (by omega)]; simp
theorem Ints.below (h : Ints w B A n l) (hb : Below B w w') : Ints w' B A n l := ⟨h.1, h.2.1, h.2.2.below hb⟩
theorem Ints.more (h : Ints w B A n l) (hB : B ≤ B') : Ints w B' A n l := ⟨h.1, h.2.1, h.2.2.more hB⟩
theorem Ints.drewN (h : Ints w B A n l) (k : Nat) : Ints (w.drewN k) B A n l := h
theorem Ints.nil_ : Ints w B A 0 [] := ⟨rfl, (fun x hx => by cases hx), .inl rfl⟩
end
theorem heap_lt {w : World} {b : Nat} {o : Obj} (h : w.heap[b]? = some o) : b < w.heap.size := (Array.getElem?_eq_some_iff.1 h).1
theorem ownsRow_block {w w' : World} {base : Nat} {e : TypeId} {size : Nat} {v : Value} {n : Nat} {xs : List Value} (h : w.ownsRow base e size v n xs) (hb : ∀ b, v.ownBlock = some b → w'.heap[b]? = w.heap[b]?) : w'.ownsRow base e size v n xs := by
  refine ⟨h.1, ?_⟩
  rcases h.2 with hn | ⟨g, cap, cur, rfl, hbb, hg, rest⟩
  · exact .inl hn
  · exact .inr ⟨g, cap, cur, rfl, hbb, (hb g rfl).trans hg, rest⟩
theorem int_info : (Tryz.prog.info? 3).map (fun i => (i.zero, i.size, i.bytes)) = some (some (.int .i64 0), 1, 8) := by kernel_rfl
theorem I64s.snoc {l : List Int} (h : I64s l) {x : Int} (hx : -9223372036854775808 ≤ x ∧ x ≤ 9223372036854775807) : I64s (l ++ [x]) := by
  intro y hy
  rcases List.mem_append.1 hy with h1 | h1
  · exact h y h1
  · rw [List.mem_singleton] at h1; subst h1; exact hx
theorem iv_snoc (l : List Int) (x : Int) : iv (l ++ [x]) = iv l ++ [.int .i64 x] := by simp [iv]
/-- What a collecting loop holds: 'v' owns the integers 'acc' in memory of its own. -/
def OwnInts (w : World) (B : Nat) (v : Value) (acc : List Int) : Prop := w.ownsRow B 3 1 v acc.length (iv acc) ∧ I64s acc
theorem OwnInts.nil_ (w : World) (B : Nat) : OwnInts w B (.slice none 0 0) [] := ⟨World.ownsRow_nil _ _ _ _, fun x hx => by cases hx⟩
theorem OwnInts.ints {w : World} {B : Nat} {v : Value} {acc : List Int} (h : OwnInts w B v acc) : ∃ A c, v = .slice A acc.length c ∧ acc.length ≤ c ∧ c ≤ maxLen ∧ Ints w w.heap.size A acc.length acc := by
  rcases h.1.2 with ⟨rfl, hn⟩ | ⟨g, cap, cur, rfl, hb, hg, h1, h2, h3, h4⟩
  · rw [hn]
    have : acc = [] := List.eq_nil_of_length_eq_zero hn
    subst this
    exact ⟨none, 0, rfl, Nat.le_refl _, by simp, Ints.nil_⟩
  · exact ⟨_, cap, rfl, h1, h2, rfl, h.2, Run.of_own h.1⟩
theorem OwnInts.alloc {w : World} {B : Nat} {v : Value} {acc : List Int} (h : OwnInts w B v acc) (o : Obj) : OwnInts (w.alloc o) B v acc := ⟨h.1.alloc o, h.2⟩
theorem OwnInts.base {w : World} {B : Nat} {v : Value} {acc : List Int} (h : OwnInts w B v acc) : ∀ k, v.ownBlock = some k → B ≤ k := fun k hk => (h.1.lt k hk).1
theorem OwnInts.block {w w' : World} {B : Nat} {v : Value} {acc : List Int} (h : OwnInts w B v acc) (hb : ∀ b, v.ownBlock = some b → w'.heap[b]? = w.heap[b]?) : OwnInts w' B v acc := ⟨ownsRow_block h.1 hb, h.2⟩
theorem OwnInts.more {w : World} {B B' : Nat} {v : Value} {acc : List Int} (h : OwnInts w B v acc) (hB : B' ≤ B) : OwnInts w B' v acc := by
  obtain ⟨⟨h0, h1⟩, h2⟩ := h
  refine ⟨⟨h0, ?_⟩, h2⟩
  rcases h1 with h1 | ⟨g, cap, cur, e, hb, r⟩
  · exact .inl h1
  · exact .inr ⟨g, cap, cur, e, by omega, r⟩

/-- append of one integer onto a slice of the call's own; the world behind it may forget the box of the new element. -/
theorem wpList_push {ops : Array Oper} {rest : List Oper} {o : Oper} {a : Act} {W : World} {Q : Exit → Act → World → Prop} {B : Nat} {y : Int} {v : Value} {acc : List Int} (hown : OwnInts W B v acc) (hB : B ≤ W.heap.size)
    (hy : -9223372036854775808 ≤ y ∧ y ≤ 9223372036854775807) (hlen : acc.length < 1099511627776) (hgd : o.guard = none) (s x : Operand) (t : TypeId) (c : Nat)
    (ho : o.op = .call { callee := .builtin .append, args := #[s, x], argTypes := #[t, t] }) (ht : Tryz.prog.underlying t = some (.slice 3))
    (hs : a.eval s = v) (hx : a.eval x = .slice (some ⟨W.heap.size, 0, none⟩) 1 c)
    (h : ∀ v' w', OwnInts w' B v' (acc ++ [y]) → W.grownBy w' v.ownBlock → (v'.ownBlock = v.ownBlock ∨ ∃ k, v'.ownBlock = some k ∧ W.heap.size ≤ k) → wpList Tryz.prog ops Q rest (a.put o.dst v') w') :
    wpList Tryz.prog ops Q (o :: rest) a (W.alloc (.cells #[.int .i64 y] 3)) := by
  obtain ⟨i0, hi, hz0, hz1, hz2⟩ := info_parts int_info
  refine wpList_append_own_at _ hgd s x t ho B 3 i0 _ 1 8 ht hi hz0 hz1 hz2 rfl (by omega) v acc.length (iv acc) hs (hown.alloc _).1 ⟨W.heap.size, 0, none⟩ 1 c [.int .i64 y] hx rfl (cell_one_new _ _ _) ?_ (by simp only [maxLen]; omega) (by omega) (by simp; omega) ?_
  · intro u hu; simp at hu; subst hu; rfl
  · intro v' w' h1 h2 _ h4
    refine h v' w' ⟨?_, hown.2.snoc hy⟩ ?_ ?_
    · rw [iv_snoc]; simpa using h1
    · have h5 := World.grownBy_alloc W (.cells #[.int .i64 y] 3) v.ownBlock
      exact ⟨h2.os.trans h5.os, h2.tape.trans h5.tape, h2.output.trans h5.output, Nat.le_trans h5.size h2.size, fun k hk hne => (h2.block k (by simp; omega) hne).trans (h5.block k hk hne)⟩
    · rcases h4 with h4 | h4
      · exact .inl h4
      · exact .inr ⟨_, h4, by simp⟩

/-- Outside F the world w' is as w was. -/
structure Off (F : Nat → Prop) (w w' : World) : Prop where
  os : w'.os = w.os
  tape : w'.tape = w.tape
  output : w'.output = w.output
  size : w.heap.size ≤ w'.heap.size
  block : ∀ k, k < w.heap.size → ¬ F k → w'.heap[k]? = w.heap[k]?

namespace Off
variable {F G : Nat → Prop} {a b c w w' : World}
theorem refl (F : Nat → Prop) (w : World) : Off F w w := ⟨rfl, rfl, rfl, Nat.le_refl _, fun _ _ _ => rfl⟩
theorem trans (h : Off F a b) (k : Off F b c) : Off F a c :=
  ⟨k.os.trans h.os, k.tape.trans h.tape, k.output.trans h.output, Nat.le_trans h.size k.size, fun i hi hF => (k.block i (Nat.lt_of_lt_of_le hi h.size) hF).trans (h.block i hi hF)⟩
theorem mono (h : Off F a b) (hF : ∀ k, k < a.heap.size → F k → G k) : Off G a b := ⟨h.os, h.tape, h.output, h.size, fun i hi hn => h.block i hi fun hf => hn (hF i hi hf)⟩
/-- What the second step touches is new or was touched by the first. -/
theorem andThen (h : Off F a b) (k : Off G b c) (hG : ∀ i, i < a.heap.size → G i → F i) : Off F a c :=
  ⟨k.os.trans h.os, k.tape.trans h.tape, k.output.trans h.output, Nat.le_trans h.size k.size, fun i hi hF => (k.block i (Nat.lt_of_lt_of_le hi h.size) fun hg => hF (hG i hi hg)).trans (h.block i hi hF)⟩
theorem alloc (h : Off F a b) (o : Obj) : Off F a (b.alloc o) :=
  h.andThen (G := fun _ => False) ⟨rfl, rfl, rfl, by simp, fun k hk _ => heap_alloc_old b o hk⟩ fun _ _ h => h.elim
theorem setCell (h : Off F a b) {p : Addr} (hp : F p.block ∨ a.heap.size ≤ p.block) (u : Value) : Off F a (b.setCell p u) :=
  h.andThen (G := fun k => k = p.block) ⟨rfl, rfl, rfl, by simp [World.setCell], fun k hk hn => heap_setCell_other b p k u hn⟩ fun i hi e => by subst e; rcases hp with h | h; exact h; omega
theorem drew (h : Off F a b) : Off F a b.drew := ⟨h.os, h.tape, h.output, h.size, h.block⟩
theorem drewN (h : Off F a b) (n : Nat) : Off F a (b.drewN n) := ⟨h.os, h.tape, h.output, h.size, h.block⟩
theorem grown (h : Off F a b) {row : Option Nat} (hg : b.grownBy c row) (hr : ∀ k, row = some k → F k ∨ a.heap.size ≤ k) : Off F a c :=
  h.andThen (G := fun k => row = some k) ⟨hg.os, hg.tape, hg.output, hg.size, fun k hk hn => hg.block k hk fun e => hn e.symm⟩ fun i hi e => by rcases hr i e with h | h; exact h; omega
theorem below {B : Nat} (h : Off F a b) (hB : B ≤ a.heap.size) (hF : ∀ k, F k → B ≤ k) : Below B a b :=
  ⟨h.os, h.tape, h.output, h.size, fun k hk => h.block k (by omega) fun hf => by have := hF k hf; omega⟩
theorem of_below {B : Nat} (h : Below B a b) (hB : ∀ k, k < a.heap.size → B ≤ k → F k) : Off F a b :=
  ⟨h.os, h.tape, h.output, h.size, fun k hk hn => h.block k (by rcases Nat.lt_or_ge k B with h | h; exact h; exact absurd (hB k hk h) hn)⟩
end Off


/-- A list of bytes as a string of Go. -/
def ba (l : List UInt8) : ByteArray := ⟨l.toArray⟩
theorem ba_list (l : List UInt8) : (ba l).data.toList = l := rfl
theorem ba_eq (s : ByteArray) : ba s.data.toList = s := rfl
theorem ba_size (l : List UInt8) : (ba l).size = l.length := by unfold ba; simp [ByteArray.size]
theorem ba_toList (l : List UInt8) : (ba l).toList = l := by rw [ByteArray.toList_eq]; rfl
theorem ba_inj {a b : List UInt8} : ba a = ba b ↔ a = b := ⟨fun h => by rw [← ba_list a, h, ba_list], fun h => by rw [h]⟩
theorem ba_get (l : List UInt8) (k : Nat) (h : k < (ba l).size) : (ba l)[k] = l[k]'(by rw [← ba_size]; exact h) := rfl
theorem ba_drop (l : List UInt8) (k : Nat) : (ba l).extract k (ba l).size = ba (l.drop k) := by
  rw [ba_size]; unfold ba; apply ByteArray.ext; simp
  exact List.take_of_length_le (by simp)
theorem ba_cut (l : List UInt8) (i j : Nat) : (ba l).extract i j = ba ((l.take j).drop i) := by
  unfold ba; apply ByteArray.ext; simp [List.extract_eq_take_drop, List.drop_take]
theorem ba_append (a b : List UInt8) : ba a ++ ba b = ba (a ++ b) := by unfold ba; apply ByteArray.ext; simp
end Go.Proofs.YtfinpehbpcckaaaGreatDoor
end
section
namespace Go.Proofs.YtfinpehbpcckaaaGreatDoor
open Go.RowKit
set_option linter.unusedVariables false

/-- Elements of a map are read as they are. -/
def asIs (v : Value) : Option (DataW Value × List MemPlace) := some (.held v, [])
/-- A kind of keys: their values, which fit, their literals. -/
structure KeyKind (k : TypeId) (κ : Type) where
  kv : κ → Value
  fits : κ → Prop
  kk : κ → Lit
  keyed : Maps.Keyed Tryz.prog k
  of : ∀ x, fits x → keyOf Tryz.prog k (kv x) = some (kk x)
  inv : ∀ v l, keyOf Tryz.prog k v = some l → ∃ x, fits x ∧ v = kv x ∧ l = kk x
  inj : ∀ x y, fits x → fits y → kk x = kk y → x = y
/-- Block b is a map: the key x leads to f x. -/
def MapAt {k : TypeId} {κ : Type} (K : KeyKind k κ) (w : World) (b : Nat) (f : κ → Option Value) (c : Nat) : Prop :=
  ∃ D, w.ownsMap Tryz.prog k asIs b c D ∧ ∀ x, K.fits x → ∀ z, D.atKey (K.kk x) z = match f x with | some v => .held v | none => z
theorem ownsMap_block {H : Type} {P : Program} {k : TypeId} {R : Value → Option (DataW H × List MemPlace)} {w w' : World} {b n : Nat} {D : DataW H} (h : w.ownsMap P k R b n D) (hb : w'.heap[b]? = w.heap[b]?) : w'.ownsMap P k R b n D := by
  obtain ⟨es, clock, h1, h2⟩ := h
  exact ⟨es, clock, hb.trans h1, h2⟩
section
variable {k : TypeId} {κ : Type} {K : KeyKind k κ} {w w' : World} {b c : Nat} {f : κ → Option Value}
theorem MapAt.keep (h : MapAt K w b f c) (hb : w'.heap[b]? = w.heap[b]?) : MapAt K w' b f c := by
  obtain ⟨D, h1, h2⟩ := h; exact ⟨D, ownsMap_block h1 hb, h2⟩
theorem MapAt.mono (h : MapAt K w b f c) {c' : Nat} (hc : c ≤ c') : MapAt K w b f c' := by
  obtain ⟨D, h1, h2⟩ := h; exact ⟨D, h1.mono hc, h2⟩
theorem MapAt.lt (h : MapAt K w b f c) : b < w.heap.size := by obtain ⟨D, h1, _⟩ := h; exact h1.lt
theorem MapAt.made (K : KeyKind k κ) (w : World) : MapAt K (w.alloc (.map #[] 0)) w.heap.size (fun _ => none) 0 := ⟨_, World.ownsMap_made _ _ _ _, fun _ _ _ => rfl⟩
theorem MapAt.look {t e : TypeId} (h : MapAt K w b f c) (ht : Tryz.prog.underlying t = some (.map k e)) {z : Value} (hz : (zeroValue e).run Tryz.prog w = .ok z w) {x : κ} (hx : K.fits x) :
    (Instr.lookup t (.map (some b)) (K.kv x) false).run Tryz.prog w = .ok ((f x).getD z) w := by
  obtain ⟨D, h1, h2⟩ := h
  obtain ⟨v, ps, hrun, hv⟩ := h1.lookup K.keyed ht hz (zd := .held z) (zp := []) rfl (K.of x hx)
  rw [h2 x hx] at hv
  rw [hrun]
  unfold asIs at hv
  cases hn : f x with
  | none => rw [hn] at hv; simp only [Option.some.injEq, Prod.mk.injEq, DataW.held.injEq] at hv; rw [hv.1]; rfl
  | some g => rw [hn] at hv; simp only [Option.some.injEq, Prod.mk.injEq, DataW.held.injEq] at hv; rw [hv.1]; rfl
open Classical in
/-- One key set. -/
noncomputable def updK {κ : Type} (f : κ → Option Value) (x : κ) (v : Value) : κ → Option Value := fun y => if y = x then some v else f y
theorem updK_same (f : κ → Option Value) (x : κ) (v : Value) : updK f x v x = some v := by unfold updK; rw [if_pos rfl]
theorem updK_other (f : κ → Option Value) {x y : κ} (v : Value) (h : y ≠ x) : updK f x v y = f y := by unfold updK; rw [if_neg h]
theorem MapAt.put {t e : TypeId} (h : MapAt K w b f c) (ht : Tryz.prog.underlying t = some (.map k e)) (hc : c < maxLen) {x : κ} (hx : K.fits x) (v : Value) :
    ∃ w', (Instr.mapUpdate t (.map (some b)) (K.kv x) v).run Tryz.prog w = .ok () w' ∧ MapAt K w' b (updK f x v) (c + 1) ∧ w.grownBy w' (some b) := by
  obtain ⟨D, h1, h2⟩ := h
  have hm := h1.isMap
  obtain ⟨w', hrun, ho, hg⟩ := h1.update K.keyed ht hc (d := .held v) (ps := []) (K.of x hx) (val := v) rfl
  refine ⟨w', hrun, ⟨_, ho, fun y hy z => ?_⟩, hg⟩
  by_cases e : y = x
  · subst e
    rw [updK_same, Maps.atKey_put_same hm (K.keyed.key (K.of y hx))]
  · rw [updK_other _ _ e, Maps.atKey_put_other (fun e1 => e (K.inj y x hy hx e1)), h2 y hy]
/-- A range under way over the map at block b: the iterator at block r, the keys L came already. -/
def Ranging (K : KeyKind k κ) (w : World) (b r : Nat) (f : κ → Option Value) (c : Nat) (L : List κ) (cnt : Nat) : Prop :=
  ∃ D left, w.ranges Tryz.prog k asIs b r c D left cnt ∧ (∀ x, K.fits x → ∀ z, D.atKey (K.kk x) z = match f x with | some v => .held v | none => z) ∧
    (∀ x, K.fits x → (left (K.kk x) = true ↔ f x ≠ none ∧ x ∉ L)) ∧ L.Nodup ∧ ∀ x, x ∈ L → K.fits x ∧ f x ≠ none
theorem Ranging.map {r cnt : Nat} {L : List κ} (h : Ranging K w b r f c L cnt) : MapAt K w b f c := by
  obtain ⟨D, left, h1, h2, _⟩ := h; exact ⟨D, h1.owns, h2⟩
theorem Ranging.kept {r cnt : Nat} {L : List κ} {row : Option Nat} (h : Ranging K w b r f c L cnt) (hg : w.grownBy w' row) (hb : some b ≠ row) (hr : some r ≠ row) : Ranging K w' b r f c L cnt := by
  obtain ⟨D, left, h1, h2⟩ := h; exact ⟨D, left, h1.kept hg hb hr, h2⟩
theorem Ranging.left_eq {r cnt : Nat} {L : List κ} (h : Ranging K w b r f c L cnt) : w.rangeLeft b r = cnt := by
  obtain ⟨D, left, h1, _⟩ := h; exact h1.left_eq
theorem Ranging.lt {r cnt : Nat} {L : List κ} (h : Ranging K w b r f c L cnt) : r < w.heap.size := by
  obtain ⟨D, left, h1, _⟩ := h; exact h1.lt
theorem Ranging.ne {r cnt : Nat} {L : List κ} (h : Ranging K w b r f c L cnt) : r ≠ b := by
  obtain ⟨D, left, h1, _⟩ := h; exact h1.ne
theorem MapAt.range {t e : TypeId} (h : MapAt K w b f c) (ht : Tryz.prog.underlying t = some (.map k e)) :
    ∃ w' cnt, (Instr.range t (.map (some b))).run Tryz.prog w = .ok (.pointer (some ⟨w.heap.size, 0, none⟩)) w' ∧ Ranging K w' b w.heap.size f c [] cnt ∧ w.grownBy w' none ∧ w'.heap.size = w.heap.size + 1 := by
  obtain ⟨D, h1, h2⟩ := h
  obtain ⟨w', hrun, hr, hg, hs⟩ := h1.range K.keyed ht
  refine ⟨w', _, hrun, ⟨D, _, hr, h2, fun x hx => ?_, List.nodup_nil, fun x hx => by cases hx⟩, hg, hs⟩
  have h3 := h2 x hx
  cases hn : f x with
  | none =>
    rw [hn] at h3
    rw [Maps.has_false_of_atKey h3]
    simp
  | some v =>
    rw [hn] at h3
    rw [Maps.has_true_of_atKey h3]
    simp
/-- The step. -/
theorem Ranging.next {r cnt : Nat} {L : List κ} (h : Ranging K w b r f c L cnt) (ty : TypeId) :
    ((∀ x, K.fits x → f x ≠ none → x ∈ L) ∧ (Instr.next (.pointer (some ⟨r, 0, none⟩)) false ty).run Tryz.prog w = .ok (.tuple #[.bool false]) w) ∨
    ∃ x v w' cnt', K.fits x ∧ f x = some v ∧ x ∉ L ∧ (Instr.next (.pointer (some ⟨r, 0, none⟩)) false ty).run Tryz.prog w = .ok (.tuple #[.bool true, K.kv x, v]) w' ∧
      Ranging K w' b r f c (L ++ [x]) cnt' ∧ cnt' < cnt ∧ w.grownBy w' (some r) ∧ w'.heap.size = w.heap.size ∧ (Instr.entry (.pointer (some ⟨r, 0, none⟩))).run Tryz.prog w' = .ok (.tuple #[K.kv x, v]) w' := by
  obtain ⟨D, left, h1, h2, h3, h4, h5⟩ := h
  rcases h1.next K.keyed ty with ⟨h0, hl, hrun⟩ | ⟨key, v, kl, y, w', cnt', hkey, hlk, hv, hat, hrun, hrg, hlt, hgr, hsz, hen⟩
  · refine .inl ⟨fun x hx hf => ?_, hrun⟩
    have h6 := h3 x hx
    rw [hl] at h6
    by_cases hm : x ∈ L
    · exact hm
    · exact absurd (h6.2 ⟨hf, hm⟩) (by simp)
  · obtain ⟨x, hx, rfl, rfl⟩ := K.inv key kl hkey
    have h6 := (h3 x hx).1 hlk
    obtain ⟨u, hu⟩ := Option.ne_none_iff_exists'.1 h6.1
    have h7 : u = v := by
      have h8 := hat (.held (.int .i64 0))
      rw [h2 x hx, hu] at h8
      have h9 : (some (.held v, []) : Option (DataW Value × List MemPlace)) = some y := hv
      have h10 := Option.some.inj h9
      rw [← h10] at h8
      exact DataW.held.inj h8
    subst h7
    refine .inr ⟨x, u, w', cnt', hx, hu, h6.2, hrun, ⟨D, _, hrg, h2, fun z hz => ?_, ?_, fun z hz => ?_⟩, hlt, hgr, hsz, hen⟩
    · have hk1 := K.keyed.key (K.of x hx)
      have hk2 := K.keyed.key (K.of z hz)
      rw [Bool.and_eq_true, Bool.not_eq_true']
      by_cases e : z = x
      · subst e
        have : (K.kk z).sameKey (K.kk z) = true := (WideAt.sameKey_iff hk1).2 rfl
        rw [this]
        simp
      · have : (K.kk z).sameKey (K.kk x) = false := by
          cases e2 : (K.kk z).sameKey (K.kk x) with
          | false => rfl
          | true => exact absurd (K.inj z x hz hx ((WideAt.sameKey_iff hk1).1 e2)) e
        rw [this, h3 z hz]
        simp [e]
    · rw [List.nodup_append]
      refine ⟨h4, by simp, ?_⟩
      intro p hp q hq e
      rw [List.mem_singleton] at hq
      subst hq; subst e
      exact h6.2 hp
    · rcases List.mem_append.1 hz with hz | hz
      · exact h5 z hz
      · rw [List.mem_singleton] at hz; subst hz; exact ⟨hx, h6.1⟩
end
end Go.Proofs.YtfinpehbpcckaaaGreatDoor
end
section
namespace Go.Proofs.YtfinpehbpcckaaaGreatDoor
open Go.RowKit
set_option linter.unusedVariables false

theorem laidOut : laidOutB Tryz.prog = true := by kernel_rfl
theorem wf64 {i : Int} (h : -9223372036854775808 ≤ i ∧ i ≤ 9223372036854775807) : (Lit.int .i64 i).wf = true := by
  unfold Lit.wf
  have h1 : IntKind.i64.min = -9223372036854775808 := by decide
  have h2 : IntKind.i64.max = 9223372036854775807 := by decide
  simp only [h1, h2, Bool.and_eq_true, decide_eq_true_eq]; exact h
theorem wf64_bounds {i : Int} (h : (Lit.int .i64 i).wf = true) : -9223372036854775808 ≤ i ∧ i ≤ 9223372036854775807 := by
  unfold Lit.wf at h
  have h1 : IntKind.i64.min = -9223372036854775808 := by decide
  have h2 : IntKind.i64.max = 9223372036854775807 := by decide
  simpa only [h1, h2, Bool.and_eq_true, decide_eq_true_eq] using h
def intK : KeyKind 3 Int where
  kv := .int .i64
  fits := fun i => (Lit.int .i64 i).wf = true
  kk := fun i => .int .i64 i
  keyed := Maps.int_keyed Tryz.underlying3
  of := fun x hx => Maps.keyOf_int_mk Tryz.underlying3 hx
  inv := fun v l h => by
    obtain ⟨x, rfl, rfl, hw⟩ := Maps.keyOf_int_inv Tryz.underlying3 h
    exact ⟨x, hw, rfl, rfl⟩
  inj := fun x y _ _ h => by injection h
theorem row57 : (57 : TypeId) < Tryz.prog.types.size := of_decide_eq_true (by kernel_rfl)
theorem row60 : (60 : TypeId) < Tryz.prog.types.size := of_decide_eq_true (by kernel_rfl)
theorem law57 : WideMaps.KeyLaw Tryz.prog 57 := deep_law_laid laidOut (m := 3) (by omega) row57 (by kernel_rfl) (by rw [Tryz.underlying57])
theorem law60 : WideMaps.KeyLaw Tryz.prog 60 := deep_law_laid laidOut (m := 3) (by omega) row60 (by kernel_rfl) (by rw [Tryz.underlying60])
theorem cells57 : Tryz.prog.cellsOf 57 = 2 := by kernel_rfl
theorem cells60 : Tryz.prog.cellsOf 60 = 2 := by kernel_rfl
theorem cells3 : Tryz.prog.cellsOf 3 = 1 := by kernel_rfl
theorem cells9 : Tryz.prog.cellsOf 9 = 1 := by kernel_rfl
theorem kt57 : Tryz.prog.keyType 57 = true := by kernel_rfl
theorem kt60 : Tryz.prog.keyType 60 = true := by kernel_rfl
theorem types_size : ∃ n, Tryz.prog.types.size + 1 = n + 2 := ⟨Tryz.prog.types.size - 1, by have : (60 : Nat) < Tryz.prog.types.size := row60; omega⟩
def spotV (p : Int × Int) : Value := .agg #[.int .i64 p.1, .int .i64 p.2]
def keyV (p : Int × List UInt8) : Value := .agg #[.int .i64 p.1, .string (ba p.2)]
def SpotFits (p : Int × Int) : Prop := (Lit.int .i64 p.1).wf = true ∧ (Lit.int .i64 p.2).wf = true
def KeyFits (p : Int × List UInt8) : Prop := (Lit.int .i64 p.1).wf = true ∧ p.2.length ≤ maxLen
theorem spot_some {p : Int × Int} (h : SpotFits p) : ∃ l, keyOf Tryz.prog 57 (spotV p) = some l := by
  obtain ⟨n, hn⟩ := types_size
  have hf : (spotV p).formed Tryz.prog 57 = true := by simp [spotV, Value.formed, Tryz.underlying57, cells57]
  have hc : (spotV p).cells.toList = [.int .i64 p.1, .int .i64 p.2] := rfl
  have h1 := h.1
  have h2 := h.2
  unfold keyOf
  rw [Tryz.underlying57]
  simp only [kt57, hf, hn, hc]
  simp [Program.keyLits, Tryz.underlying57, Tryz.underlying3, cells57, cells3, h1, h2]
theorem key_some {p : Int × List UInt8} (h : KeyFits p) : ∃ l, keyOf Tryz.prog 60 (keyV p) = some l := by
  obtain ⟨n, hn⟩ := types_size
  have hf : (keyV p).formed Tryz.prog 60 = true := by simp [keyV, Value.formed, Tryz.underlying60, cells60]
  have hc : (keyV p).cells.toList = [.int .i64 p.1, .string (ba p.2)] := rfl
  have h1 := h.1
  have h2 : (ba p.2).size ≤ maxLen := by rw [ba_size]; exact h.2
  unfold keyOf
  rw [Tryz.underlying60]
  simp only [kt60, hf, hn, hc]
  simp [Program.keyLits, Tryz.underlying60, Tryz.underlying3, Tryz.underlying9, cells60, cells3, cells9, h1, h2]
set_option maxRecDepth 100000 in
theorem spot_inv {v : Value} {l : Lit} (h : keyOf Tryz.prog 57 v = some l) : ∃ p, SpotFits p ∧ v = spotV p := by
  obtain ⟨n, hn⟩ := types_size
  unfold keyOf at h
  rw [Tryz.underlying57] at h
  simp only [kt57, hn, Bool.true_and] at h
  cases v with
  | agg cs =>
    have hf : (Value.agg cs).formed Tryz.prog 57 = (cs.size == 2) := by simp [Value.formed, Tryz.underlying57, cells57]
    rw [hf] at h
    by_cases hsz : cs.size = 2
    · obtain ⟨l2⟩ := cs
      match l2, hsz with
      | [a, b], _ =>
        have hk : ∃ ls, Tryz.prog.keyLits (n + 2) 57 [a, b] = some ls := by
          cases e : Tryz.prog.keyLits (n + 2) 57 [a, b] with
          | none => simp [Value.cells, e] at h
          | some ls => exact ⟨ls, rfl⟩
        obtain ⟨ls, hls⟩ := hk
        clear h hf
        cases a <;> cases b <;> simp [Program.keyLits, Tryz.underlying57, Tryz.underlying3, cells57, cells3] at hls
        rename_i k1 n1 k2 n2 hx
        by_cases h1 : k1 = IntKind.i64 ∧ (Lit.int IntKind.i64 n1).wf = true
        · by_cases h2 : k2 = IntKind.i64 ∧ (Lit.int IntKind.i64 n2).wf = true
          · exact ⟨(n1, n2), ⟨h1.2, h2.2⟩, by rw [h1.1, h2.1]; rfl⟩
          · rw [if_pos h1, if_neg h2] at hls; cases hls
        · rw [if_neg h1] at hls; cases hls
    · have : (cs.size == 2) = false := by simpa using hsz
      rw [this] at h
      simp at h
  | _ => simp [Value.formed, Tryz.underlying57] at h
set_option maxRecDepth 100000 in
theorem key_inv {v : Value} {l : Lit} (h : keyOf Tryz.prog 60 v = some l) : ∃ p, KeyFits p ∧ v = keyV p := by
  obtain ⟨n, hn⟩ := types_size
  unfold keyOf at h
  rw [Tryz.underlying60] at h
  simp only [kt60, hn, Bool.true_and] at h
  cases v with
  | agg cs =>
    have hf : (Value.agg cs).formed Tryz.prog 60 = (cs.size == 2) := by simp [Value.formed, Tryz.underlying60, cells60]
    rw [hf] at h
    by_cases hsz : cs.size = 2
    · obtain ⟨l2⟩ := cs
      match l2, hsz with
      | [a, b], _ =>
        have hk : ∃ ls, Tryz.prog.keyLits (n + 2) 60 [a, b] = some ls := by
          cases e : Tryz.prog.keyLits (n + 2) 60 [a, b] with
          | none => simp [Value.cells, e] at h
          | some ls => exact ⟨ls, rfl⟩
        obtain ⟨ls, hls⟩ := hk
        clear h hf
        cases a <;> cases b <;> simp [Program.keyLits, Tryz.underlying60, Tryz.underlying3, Tryz.underlying9, cells60, cells3, cells9] at hls
        rename_i k1 n1 s2 hx
        by_cases h1 : k1 = IntKind.i64 ∧ (Lit.int IntKind.i64 n1).wf = true
        · by_cases h2 : s2.size ≤ maxLen
          · exact ⟨(n1, s2.data.toList), ⟨h1.2, by rw [← ba_size]; exact h2⟩, by rw [h1.1]; rfl⟩
          · simp [h1, h2] at hls
        · rw [if_neg h1] at hls; cases hls
    · have : (cs.size == 2) = false := by simpa using hsz
      rw [this] at h
      simp at h
  | _ => simp [Value.formed, Tryz.underlying60] at h
noncomputable def spotL (p : Int × Int) : Lit := (keyOf Tryz.prog 57 (spotV p)).getD (.bool false)
noncomputable def keyL (p : Int × List UInt8) : Lit := (keyOf Tryz.prog 60 (keyV p)).getD (.bool false)
theorem spotL_of {p : Int × Int} (h : SpotFits p) : keyOf Tryz.prog 57 (spotV p) = some (spotL p) := by
  obtain ⟨l, hl⟩ := spot_some h
  unfold spotL; rw [hl]; rfl
theorem keyL_of {p : Int × List UInt8} (h : KeyFits p) : keyOf Tryz.prog 60 (keyV p) = some (keyL p) := by
  obtain ⟨l, hl⟩ := key_some h
  unfold keyL; rw [hl]; rfl
theorem spotV_inj {p q : Int × Int} (h : spotV p = spotV q) : p = q := by
  simp only [spotV, Value.agg.injEq] at h
  have h3 : [Value.int .i64 p.1, Value.int .i64 p.2] = [Value.int .i64 q.1, Value.int .i64 q.2] := congrArg Array.toList h
  simp only [List.cons.injEq, Value.int.injEq, and_true, true_and] at h3
  exact Prod.ext h3.1 h3.2
theorem keyV_inj {p q : Int × List UInt8} (h : keyV p = keyV q) : p = q := by
  simp only [keyV, Value.agg.injEq] at h
  have h3 : [Value.int .i64 p.1, Value.string (ba p.2)] = [Value.int .i64 q.1, Value.string (ba q.2)] := congrArg Array.toList h
  simp only [List.cons.injEq, Value.int.injEq, Value.string.injEq, and_true, true_and] at h3
  exact Prod.ext h3.1 (ba_inj.1 h3.2)
noncomputable def spotK : KeyKind 57 (Int × Int) where
  kv := spotV
  fits := SpotFits
  kk := spotL
  keyed := .of_law law57
  of := fun x hx => spotL_of hx
  inv := fun v l h => by
    obtain ⟨p, hp, rfl⟩ := spot_inv h
    rw [spotL_of hp] at h
    exact ⟨p, hp, rfl, (Option.some.inj h).symm⟩
  inj := fun x y hx hy h => spotV_inj (law57.inj (spotL_of hx) (by rw [h]; exact spotL_of hy))
noncomputable def keyK : KeyKind 60 (Int × List UInt8) where
  kv := keyV
  fits := KeyFits
  kk := keyL
  keyed := .of_law law60
  of := fun x hx => keyL_of hx
  inv := fun v l h => by
    obtain ⟨p, hp, rfl⟩ := key_inv h
    rw [keyL_of hp] at h
    exact ⟨p, hp, rfl, (Option.some.inj h).symm⟩
  inj := fun x y hx hy h => keyV_inj (law60.inj (keyL_of hx) (by rw [h]; exact keyL_of hy))
end Go.Proofs.YtfinpehbpcckaaaGreatDoor
end
section
namespace Go.Proofs.YtfinpehbpcckaaaGreatDoor
open Go.RowKit
set_option linter.unusedVariables false

abbrev Key := Int × List UInt8
/-- One occurrence: the key, the document, the position. -/
abbrev Ev := Key × Int × Int
def placesE (evs : List Ev) (t : Key) (d : Int) : List Int := (evs.filter fun e => decide (e.1 = t) && decide (e.2.1 = d)).map (·.2.2)
theorem placesE_same (evs : List Ev) (t : Key) (d k : Int) : placesE (evs ++ [(t, d, k)]) t d = placesE evs t d ++ [k] := by simp [placesE]
theorem placesE_other (evs : List Ev) (t u : Key) (d e k : Int) (h : ¬ (t = u ∧ d = e)) : placesE (evs ++ [(t, d, k)]) u e = placesE evs u e := by
  unfold placesE
  rw [List.filter_append]
  have : (decide (t = u) && decide (d = e)) = false := by
    rw [Bool.and_eq_false_iff]
    by_cases h1 : t = u
    · exact .inr (decide_eq_false fun h2 => h ⟨h1, h2⟩)
    · exact .inl (decide_eq_false h1)
  simp [this]
theorem placesE_none {evs : List Ev} {t : Key} {d : Int} (h : ∀ e, e ∈ evs → ¬ (e.1 = t ∧ e.2.1 = d)) : placesE evs t d = [] := by
  unfold placesE
  rw [List.map_eq_nil_iff, List.filter_eq_nil_iff]
  intro e he
  have := h e he
  simpa using this
theorem placesE_len (evs : List Ev) (t : Key) (d : Int) : (placesE evs t d).length ≤ evs.length := by
  unfold placesE; rw [List.length_map]; exact List.length_filter_le _ _
/-- Who owns a block. -/
structure Own where
  kind : Nat
  key : Key
  doc : Int
abbrev Own.out : Own := ⟨0, (0, []), 0⟩
abbrev Own.top : Own := ⟨1, (0, []), 0⟩
abbrev Own.inn (t : Key) : Own := ⟨2, t, 0⟩
abbrev Own.row (t : Key) (d : Int) : Own := ⟨3, t, d⟩
def RowAt (w : World) (B : Nat) (tag : Nat → Own) (t : Key) (d : Int) (u : Value) (l : List Int) : Prop := OwnInts w B u l ∧ ∀ g, u.ownBlock = some g → tag g = .row t d
def InnAt (w : World) (B : Nat) (tag : Nat → Own) (t : Key) (v : Value) (evs : List Ev) (c : Nat) : Prop :=
  ∃ b dm, v = .map (some b) ∧ tag b = .inn t ∧ MapAt intK w b dm c ∧ (∀ d, intK.fits d → (dm d = none ↔ ∀ e, e ∈ evs → ¬ (e.1 = t ∧ e.2.1 = d))) ∧ ∀ d u, dm d = some u → RowAt w B tag t d u (placesE evs t d)
structure TermsAt (w : World) (B : Nat) (tag : Nat → Own) (T : Nat) (evs : List Ev) (X : Key → Prop) (km : Key → Option Value) (c : Nat) : Prop where
  top : tag T = .top
  fresh : ∀ b, w.heap.size ≤ b → tag b = .out
  base : ∀ b, tag b ≠ .out → B ≤ b
  map : MapAt keyK w T km c
  keys : ∀ t, KeyFits t → (km t = none ↔ (∀ e, e ∈ evs → e.1 ≠ t) ∧ ¬ X t)
  inn : ∀ t v, KeyFits t → km t = some v → InnAt w B tag t v evs c
theorem RowAt.keep {w w' : World} {B : Nat} {tag tag' : Nat → Own} {t : Key} {d : Int} {u : Value} {l : List Int} (h : RowAt w B tag t d u l) (hb : ∀ b, tag b = .row t d → w'.heap[b]? = w.heap[b]? ∧ tag' b = .row t d) : RowAt w' B tag' t d u l :=
  ⟨h.1.block fun g e => (hb g (h.2 g e)).1, fun g e => (hb g (h.2 g e)).2⟩
/-- What keeps the owners' blocks keeps the whole. -/
theorem TermsAt.keep {w w' : World} {B T c : Nat} {tag : Nat → Own} {evs : List Ev} {X : Key → Prop} {km : Key → Option Value} (h : TermsAt w B tag T evs X km c) (hs : w.heap.size ≤ w'.heap.size) (hb : ∀ b, tag b ≠ .out → w'.heap[b]? = w.heap[b]?) : TermsAt w' B tag T evs X km c := by
  refine ⟨h.top, fun b hb2 => h.fresh b (by omega), h.base, h.map.keep (hb T (by rw [h.top]; simp)), h.keys, fun t v ht hv => ?_⟩
  obtain ⟨b, dm, e, h1, h2, h3, h4⟩ := h.inn t v ht hv
  exact ⟨b, dm, e, h1, h2.keep (hb b (by rw [h1]; simp)), h3, fun d u hu => (h4 d u hu).keep fun g hg => ⟨hb g (by rw [hg]; simp), hg⟩⟩
theorem TermsAt.below {w w' : World} {B T c : Nat} {tag : Nat → Own} {evs : List Ev} {X : Key → Prop} {km : Key → Option Value} (h : TermsAt w B tag T evs X km c) (hb : Below w.heap.size w w') : TermsAt w' B tag T evs X km c :=
  h.keep hb.size fun b hb2 => hb.block b (by
    rcases Nat.lt_or_ge b w.heap.size with h1 | h1
    · exact h1
    · exact absurd (h.fresh b h1) hb2)
theorem TermsAt.lt {w : World} {B T c : Nat} {tag : Nat → Own} {evs : List Ev} {X : Key → Prop} {km : Key → Option Value} (h : TermsAt w B tag T evs X km c) {b : Nat} (hb : tag b ≠ .out) : b < w.heap.size := by
  rcases Nat.lt_or_ge b w.heap.size with h1 | h1
  · exact h1
  · exact absurd (h.fresh b h1) hb
/-- A new map of terms. -/
theorem TermsAt.made {w w' : World} {B : Nat} (hB : B ≤ w.heap.size) (hw : w' = w.alloc (.map #[] 0)) : TermsAt w' B (fun b => if b = w.heap.size then .top else .out) w.heap.size [] (fun _ => False) (fun _ => none) 0 := by
  subst hw
  refine ⟨by simp, fun b hb => ?_, fun b hb => ?_, MapAt.made _ _, fun t _ => by simp, fun t v _ h => by cases h⟩
  · have hs : (w.alloc (.map #[] 0)).heap.size = w.heap.size + 1 := by simp
    try dsimp only
    rw [if_neg (by omega)]
  · try dsimp only at hb
    by_cases e : b = w.heap.size
    · omega
    · rw [if_neg e] at hb; exact absurd rfl hb
/-- An empty inner map, under a new key. -/
theorem TermsAt.mk_ {w : World} {B T c : Nat} {tag : Nat → Own} {evs : List Ev} {km : Key → Option Value} (h : TermsAt w B tag T evs (fun _ => False) km c) (hc : c < maxLen) {t : Key} (ht : KeyFits t) (hn : km t = none) :
    ∃ w2, (Instr.mapUpdate 55 (.map (some T)) (keyV t) (.map (some w.heap.size))).run Tryz.prog (w.alloc (.map #[] 0)) = .ok () w2 ∧
      ∃ tag', (∀ b, tag b ≠ .out → tag' b = tag b) ∧ (∀ b, b < w.heap.size → tag b = .out → tag' b = .out) ∧ TermsAt w2 B tag' T evs (· = t) (updK km t (.map (some w.heap.size))) (c + 1) ∧ (w.alloc (.map #[] 0)).grownBy w2 (some T) := by
  have hs : (w.alloc (.map #[] 0)).heap.size = w.heap.size + 1 := by simp
  have hbw : Below w.heap.size w (w.alloc (.map #[] 0)) := (Below.refl _ _).alloc (Nat.le_refl _) _
  have h1 := h.below hbw
  obtain ⟨w2, hrun, hput, hg⟩ := h1.map.put Tryz.underlying55 hc ht (.map (some w.heap.size))
  have hT : T < w.heap.size := h.lt (by rw [h.top]; simp)
  have hB : B ≤ w.heap.size := by have := h.base T (by rw [h.top]; simp); omega
  have hout := h.fresh w.heap.size (Nat.le_refl _)
  refine ⟨w2, hrun, fun b => if b = w.heap.size then .inn t else tag b, fun b hb => ?_, fun b hb hb2 => ?_, ⟨?_, fun b hb => ?_, fun b hb => ?_, hput, fun u hu => ?_, fun u v hu hv => ?_⟩, hg⟩
  · try dsimp only
    rw [if_neg (by intro e; subst e; exact hb hout)]
  · try dsimp only
    rw [if_neg (by omega)]; exact hb2
  · try dsimp only
    rw [if_neg (by omega)]; exact h.top
  · have := hg.size
    try dsimp only
    rw [if_neg (by omega)]
    exact h.fresh b (by omega)
  · try dsimp only at hb
    by_cases e : b = w.heap.size
    · omega
    · rw [if_neg e] at hb; exact h.base b hb
  · by_cases e : u = t
    · subst e
      rw [updK_same]
      simp
    · rw [updK_other _ _ e, h.keys u hu]
      simp [e]
  · by_cases e : u = t
    · subst e
      rw [updK_same] at hv
      refine ⟨w.heap.size, fun _ => none, (Option.some.inj hv).symm, by simp, ?_, fun d hd => ?_, fun d u2 hu2 => by cases hu2⟩
      · refine ((MapAt.made intK w).mono (Nat.zero_le _)).keep ?_
        exact hg.block _ (by omega) (by simp; omega)
      · have := (h.keys u hu).1 hn
        exact ⟨fun _ e he h2 => this.1 e he h2.1, fun _ => rfl⟩
    · rw [updK_other _ _ e] at hv
      obtain ⟨b, dm, e2, h3, h4, h5, h6⟩ := h1.inn u v hu hv
      have hbl := h1.lt (b := b) (by rw [h3]; simp)
      have hbn : b ≠ w.heap.size := by intro e3; rw [e3, hout] at h3; cases h3
      have hbT : b ≠ T := by intro e3; rw [e3, h.top] at h3; cases h3
      refine ⟨b, dm, e2, by (try dsimp only); rw [if_neg hbn]; exact h3, (h4.keep (hg.block b (by omega) (by simpa using hbT))).mono (Nat.le_succ _), h5, fun d u2 hu2 => (h6 d u2 hu2).keep fun g hgr => ?_⟩
      have hgl := h1.lt (b := g) (by rw [hgr]; simp)
      have hgn : g ≠ w.heap.size := by intro e3; rw [e3, hout] at hgr; cases hgr
      have hgT : g ≠ T := by intro e3; rw [e3, h.top] at hgr; cases hgr
      exact ⟨hg.block g (by omega) (by simpa using hgT), by (try dsimp only); rw [if_neg hgn]; exact hgr⟩
theorem heap_lt' {w : World} {B g : Nat} {v : Value} {l : List Int} (h : OwnInts w B v l) (hv : v.ownBlock = some g) : g < w.heap.size := (h.1.lt g hv).2
/-- What a key's inner map hands out for a document. -/
def rowOr (dm : Int → Option Value) (d : Int) : Value := (dm d).getD (.slice none 0 0)
theorem TermsAt.inner {w : World} {B T c : Nat} {tag : Nat → Own} {evs : List Ev} {X : Key → Prop} {km : Key → Option Value} (h : TermsAt w B tag T evs X km c) {t : Key} {v : Value} (ht : KeyFits t) (hk : km t = some v) :
    ∃ b dm, v = .map (some b) ∧ tag b = .inn t ∧ MapAt intK w b dm c ∧ (∀ d, intK.fits d → (dm d = none ↔ ∀ e, e ∈ evs → ¬ (e.1 = t ∧ e.2.1 = d))) ∧ (∀ d u, dm d = some u → RowAt w B tag t d u (placesE evs t d)) ∧ ∀ d, intK.fits d → RowAt w B tag t d (rowOr dm d) (placesE evs t d) := by
  obtain ⟨b, dm, e, h1, h2, h3, h4⟩ := h.inn t v ht hk
  refine ⟨b, dm, e, h1, h2, h3, h4, fun d hd => ?_⟩
  unfold rowOr
  cases hn : dm d with
  | some u => exact h4 d u hn
  | none =>
    rw [placesE_none ((h3 d hd).1 hn)]
    exact ⟨OwnInts.nil_ _ _, fun g e => by cases e⟩
/-- One occurrence more: the row has grown, the inner map is told. -/
theorem TermsAt.push {w w8 : World} {B T c b : Nat} {tag : Nat → Own} {evs : List Ev} {X : Key → Prop} {km : Key → Option Value} {t : Key} {d k : Int} {dm : Int → Option Value} {v' : Value} (h : TermsAt w B tag T evs X km c) (hX : ∀ u, X u → u = t) (hc : c < maxLen) (ht : KeyFits t) (hd : intK.fits d) (hk : km t = some (.map (some b)))
    (h1 : tag b = .inn t) (h2 : MapAt intK w b dm c) (h3 : ∀ d, intK.fits d → (dm d = none ↔ ∀ e, e ∈ evs → ¬ (e.1 = t ∧ e.2.1 = d))) (h4 : ∀ d u, dm d = some u → RowAt w B tag t d u (placesE evs t d)) (h5 : RowAt w B tag t d (rowOr dm d) (placesE evs t d))
    (hown : OwnInts w8 B v' (placesE evs t d ++ [k])) (hg : w.grownBy w8 (rowOr dm d).ownBlock) (hat : v'.ownBlock = (rowOr dm d).ownBlock ∨ ∃ i, v'.ownBlock = some i ∧ w.heap.size ≤ i) :
    ∃ w9, (Instr.mapUpdate 61 (.map (some b)) (.int .i64 d) v').run Tryz.prog w8 = .ok () w9 ∧
      ∃ tag', (∀ i, i < w.heap.size → tag i = .out → tag' i = .out) ∧ TermsAt w9 B tag' T (evs ++ [(t, d, k)]) (fun _ => False) km (c + 1) ∧ Off (fun i => tag i ≠ .out) w w9 := by
  obtain ⟨g, cap, hv, hgb, hgl⟩ := hown.1.form (by simp)
  have hvb : v'.ownBlock = some g := by rw [hv]; rfl
  have hbl := h.lt (b := b) (by rw [h1]; simp)
  have hTl := h.lt (b := T) (by rw [h.top]; simp)
  have hrow : ∀ i, (rowOr dm d).ownBlock = some i → tag i = .row t d := h5.2
  have hbr : (rowOr dm d).ownBlock ≠ some b := fun e => by have := hrow b e; rw [h1] at this; cases this
  have h28 : MapAt intK w8 b dm c := h2.keep (hg.block b hbl (fun e => hbr e.symm))
  obtain ⟨w9, hrun, hput, hg9⟩ := h28.put Tryz.underlying61 hc hd v'
  have hgtag : g < w.heap.size → tag g = .row t d := fun hlt => by
    rcases hat with e | ⟨i, e, hi⟩
    · exact hrow g (by rw [← e, hvb])
    · rw [hvb] at e; have e2 := Option.some.inj e; omega
  have hnew : ¬ g < w.heap.size ∨ tag g = .row t d := by
    by_cases hl : g < w.heap.size
    · exact .inr (hgtag hl)
    · exact .inl hl
  have hs8 := hg.size
  have hs9 := hg9.size
  -- a block of another owner stands
  have hkeep : ∀ i, i < w.heap.size → i ≠ b → tag i ≠ .row t d → w9.heap[i]? = w.heap[i]? := fun i hi hib hit =>
    (hg9.block i (by omega) (by simpa using hib)).trans (hg.block i hi fun e => hit (hrow i e.symm))
  have hne : ∀ i, i < w.heap.size → tag i ≠ .row t d → i ≠ g := fun i hi hit e => by
    subst e
    exact hit (hgtag hi)
  have hgne : g ≠ b := fun e => by
    rcases hnew with hn | hn
    · omega
    · rw [e, h1] at hn; cases hn
  refine ⟨w9, hrun, fun i => if i = g then .row t d else tag i, fun i hi ho => ?_, ⟨?_, fun i hi => ?_, fun i hi => ?_, ?_, fun u hu => ?_, fun u v hu hv2 => ?_⟩, ?_⟩
  · have hig : i ≠ g := fun e => by subst e; have := hgtag hi; rw [ho] at this; cases this
    (try dsimp only); rw [if_neg hig]; exact ho
  · have hTg : T ≠ g := hne T hTl (by rw [h.top]; simp)
    (try dsimp only); rw [if_neg hTg]; exact h.top
  · have hig : i ≠ g := by omega
    (try dsimp only); rw [if_neg hig]; exact h.fresh i (by omega)
  · by_cases hig : i = g
    · omega
    · rw [if_neg hig] at hi; exact h.base i hi
  · exact (h.map.keep (hkeep T hTl (by intro e; have h0 := h.top; rw [e, h1] at h0; cases h0) (by rw [h.top]; simp))).mono (Nat.le_succ _)
  · rw [h.keys u hu]
    by_cases e : u = t
    · subst e
      constructor
      · intro hh
        have := (h.keys u hu).2 hh
        rw [hk] at this; cases this
      · intro hh
        exact absurd rfl (hh.1 (u, d, k) (by simp))
    · constructor
      · rintro ⟨ha, _⟩
        refine ⟨fun e2 he2 => ?_, fun hf => hf⟩
        rcases List.mem_append.1 he2 with he2 | he2
        · exact ha e2 he2
        · rw [List.mem_singleton] at he2; subst he2; exact fun e3 => e e3.symm
      · rintro ⟨ha, _⟩
        exact ⟨fun e2 he2 => ha e2 (by simp [he2]), fun hx => e (hX u hx)⟩
  · by_cases e : u = t
    · subst e
      rw [hk] at hv2
      refine ⟨b, updK dm d v', (Option.some.inj hv2).symm, by (try dsimp only); rw [if_neg (Ne.symm hgne)]; exact h1, hput, fun d2 hd2 => ?_, fun d2 u2 hu2 => ?_⟩
      · by_cases e2 : d2 = d
        · subst e2
          rw [updK_same]
          constructor
          · intro hh; cases hh
          · intro hh; exact absurd ⟨rfl, rfl⟩ (hh (u, d2, k) (by simp))
        · rw [updK_other _ _ e2, h3 d2 hd2]
          constructor
          · intro ha e3 he3
            rcases List.mem_append.1 he3 with he3 | he3
            · exact ha e3 he3
            · rw [List.mem_singleton] at he3; subst he3; exact fun e4 => e2 e4.2.symm
          · intro ha e3 he3; exact ha e3 (by simp [he3])
      · by_cases e2 : d2 = d
        · subst e2
          rw [updK_same] at hu2
          injection hu2 with hu2
          subst hu2
          rw [placesE_same]
          refine ⟨hown.block fun i e => ?_, fun i e => ?_⟩
          · rw [hvb] at e; have e2 := Option.some.inj e; subst e2
            exact hg9.block _ (by have := heap_lt' hown hvb; exact this) (by simpa using hgne)
          · rw [hvb] at e; have e2 := Option.some.inj e; subst e2; simp
        · rw [updK_other _ _ e2] at hu2
          rw [placesE_other _ _ _ _ _ _ (fun e3 => e2 e3.2.symm)]
          refine (h4 d2 u2 hu2).keep fun i hi => ?_
          have hil := h.lt (b := i) (by rw [hi]; simp)
          have hir : tag i ≠ .row u d := by rw [hi]; intro e3; injection e3 with _ _ e3; exact e2 e3
          exact ⟨hkeep i hil (by intro e3; rw [e3, h1] at hi; cases hi) hir, by (try dsimp only); rw [if_neg (hne i hil hir)]; exact hi⟩
    · obtain ⟨b2, dm2, e2, q1, q2, q3, q4⟩ := h.inn u v hu hv2
      have hb2l := h.lt (b := b2) (by rw [q1]; simp)
      have hb2r : tag b2 ≠ .row t d := by rw [q1]; simp
      have hb2b : b2 ≠ b := by intro e3; rw [e3, h1] at q1; injection q1 with _ q1; exact e q1.symm
      refine ⟨b2, dm2, e2, by (try dsimp only); rw [if_neg (hne b2 hb2l hb2r)]; exact q1, (q2.keep (hkeep b2 hb2l hb2b hb2r)).mono (Nat.le_succ _), fun d2 hd2 => ?_, fun d2 u2 hu2 => ?_⟩
      · rw [q3 d2 hd2]
        constructor
        · intro ha e3 he3
          rcases List.mem_append.1 he3 with he3 | he3
          · exact ha e3 he3
          · rw [List.mem_singleton] at he3; subst he3; exact fun e4 => e e4.1.symm
        · intro ha e3 he3; exact ha e3 (by simp [he3])
      · rw [placesE_other _ _ _ _ _ _ (fun e3 => e e3.1.symm)]
        refine (q4 d2 u2 hu2).keep fun i hi => ?_
        have hil := h.lt (b := i) (by rw [hi]; simp)
        have hir : tag i ≠ .row t d := by rw [hi]; intro e3; injection e3 with _ e3 _; exact e e3
        exact ⟨hkeep i hil (by intro e3; rw [e3, h1] at hi; cases hi) hir, by (try dsimp only); rw [if_neg (hne i hil hir)]; exact hi⟩
  · refine ⟨hg9.os.trans hg.os, hg9.tape.trans hg.tape, hg9.output.trans hg.output, by omega, fun i hi hn => ?_⟩
    have ho : tag i = .out := Classical.not_not.1 hn
    exact hkeep i hi (by intro e; rw [e, h1] at ho; cases ho) (by rw [ho]; simp)
end Go.Proofs.YtfinpehbpcckaaaGreatDoor
end
