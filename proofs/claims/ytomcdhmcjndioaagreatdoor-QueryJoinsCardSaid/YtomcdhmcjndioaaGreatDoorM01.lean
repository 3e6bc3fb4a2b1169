/- Layer 2, plain: the encoding of integers, strings and lists; reading them back. Words for memory: a run of cells that reads as a list, kept by whatever leaves older blocks alone; integers that a slice owns; strings. Layer 10, plain: tokens. Plain: units of UTF-8, decoded (the first part of UtfP, without the tables of folding). Layer 12, plain: parameters of a content type. Comparison of integers; function values that can be called. Layer 5: the table of spans and the search in it. -/
import Derived.Lib.Hide
import Derived.Test.YtomcdhmcjndioaaGreatDoorProg
import Derived.ProofKit
import Derived.WalkKit
import Derived.WalkSpells
import Derived.WalkLawsBesides
import Derived.BigQuiet
import Derived.Deep.QuietTactic
import Derived.Deep.DeepCutAuto
import Derived.Deep.RegionWith
import Derived.Laws.OwnMore
import Derived.Deep.AppendLies
import Derived.Deep.Draws
import Derived.Maps.AppendAt
import Derived.OneCell
import Derived.ShutString
import Derived.Lib.DecodeN
import Derived.Lib.RuneBytes
section
namespace Go.Proofs.YtomcdhmcjndioaaGreatDoor
set_option linter.unusedVariables false

/-- The varint of a number. -/
def vnum (n : Nat) : List UInt8 := if h : n < 128 then [UInt8.ofNat n] else UInt8.ofNat (n % 128 + 128) :: vnum (n / 128)
termination_by n
theorem vnum_lt {n : Nat} (h : n < 128) : vnum n = [UInt8.ofNat n] := by rw [vnum]; simp [h]
theorem vnum_ge {n : Nat} (h : 128 ≤ n) : vnum n = UInt8.ofNat (n % 128 + 128) :: vnum (n / 128) := by rw [vnum]; simp [show ¬ n < 128 by omega]
def vint (n : Int) : List UInt8 := if n < 0 then [] else vnum n.toNat
theorem vint_nat (n : Nat) : vint (n : Int) = vnum n := by unfold vint; rw [if_neg (by omega)]; simp
theorem vint_neg {n : Int} (h : n < 0) : vint n = [] := by unfold vint; rw [if_pos h]
theorem vint_pos {n : Int} (h : 0 ≤ n) : vint n = vnum n.toNat := by unfold vint; rw [if_neg (by omega)]
theorem vnum_len : ∀ (k n : Nat), n < 128 ^ k → 1 ≤ k → (vnum n).length ≤ k
  | 0, n, h, hk => by omega
  | k + 1, n, h, _ => by
    by_cases hn : n < 128
    · rw [vnum_lt hn]; simp
    · rw [vnum_ge (by omega), List.length_cons]
      have h2 : n / 128 < 128 ^ k := by rw [Nat.pow_succ] at h; omega
      have hk : 1 ≤ k := by
        cases k with
        | zero => simp at h2; omega
        | succ k => omega
      have := vnum_len k (n / 128) h2 hk
      omega
theorem vint_len (n : Int) (h : n ≤ 9223372036854775807) : (vint n).length ≤ 9 := by
  unfold vint
  split
  · simp
  · exact vnum_len 9 _ (by have : (128 : Nat) ^ 9 = 9223372036854775808 := rfl; omega) (by omega)
def vtext (s : List UInt8) : List UInt8 := vnum s.length ++ s
def vints (l : List Int) : List UInt8 := vnum l.length ++ l.flatMap vint
theorem vints_len : ∀ l : List Int, (∀ x, x ∈ l → x ≤ 9223372036854775807) → (l.flatMap vint).length ≤ 9 * l.length
  | [], _ => by simp
  | a :: r, h => by
    have h1 := vint_len a (h a (by simp))
    have h2 := vints_len r fun x hx => h x (by simp [hx])
    simp only [List.flatMap_cons, List.length_append, List.length_cons]; omega

/-- How many bytes of 128 and more stand ahead. -/
def hi : List UInt8 → Nat
  | [] => 0
  | b :: r => if 128 ≤ b.toNat then hi r + 1 else 0
/-- The number that seven bits of each byte give. -/
def val : List UInt8 → Nat
  | [] => 0
  | b :: r => b.toNat % 128 + 128 * val r
theorem hi_le : ∀ l : List UInt8, hi l ≤ l.length
  | [] => Nat.le_refl _
  | b :: r => by unfold hi; split; exact Nat.succ_le_succ (hi_le r); exact Nat.zero_le _
theorem hi_ge : ∀ (l : List UInt8) (k : Nat) (hk : k < l.length), k < hi l → 128 ≤ l[k].toNat
  | [], k, hk, _ => by simp at hk
  | b :: r, k, hk, h => by
    unfold hi at h
    split at h
    · cases k with
      | zero => assumption
      | succ k => exact hi_ge r k (by simpa using hk) (by omega)
    · omega
theorem hi_at : ∀ (l : List UInt8) (hk : hi l < l.length), l[hi l].toNat < 128
  | [], hk => by simp [hi] at hk
  | b :: r, hk => by
    by_cases hb : 128 ≤ b.toNat
    · have e : hi (b :: r) = hi r + 1 := by simp [hi, hb]
      have := hi_at r (by rw [e] at hk; simpa using hk)
      simp only [e, List.getElem_cons_succ]; exact this
    · have e : hi (b :: r) = 0 := by simp [hi, hb]
      simp only [e, List.getElem_cons_zero]; omega
/-- A walk from byte to byte finds hi. -/
theorem hi_step {l : List UInt8} {k : Nat} (hk : k < l.length) (h : k ≤ hi l) : (128 ≤ l[k].toNat → k + 1 ≤ hi l) ∧ (l[k].toNat < 128 → k = hi l) := by
  constructor
  · intro hb
    rcases Nat.lt_or_ge k (hi l) with h1 | h1
    · omega
    · have e : k = hi l := by omega
      subst e
      have := hi_at l hk; omega
  · intro hb
    rcases Nat.lt_or_ge k (hi l) with h1 | h1
    · have := hi_ge l k hk h1; omega
    · omega
theorem val_append (a b : List UInt8) : val (a ++ b) = val a + 128 ^ a.length * val b := by
  induction a with
  | nil => simp [val]
  | cons x r ih =>
    simp only [List.cons_append, val, ih, List.length_cons, Nat.pow_succ, Nat.mul_add]
    rw [Nat.mul_comm (128 ^ r.length) 128, Nat.mul_assoc]; omega
theorem val_lt (l : List UInt8) : val l < 128 ^ l.length := by
  induction l with
  | nil => simp [val]
  | cons x r ih => simp only [val, List.length_cons, Nat.pow_succ]; omega
theorem take_snoc' {α : Type} {l : List α} {k : Nat} (hk : k < l.length) : l.take (k + 1) = l.take k ++ [l[k]] := List.take_succ_eq_append_getElem hk
theorem val_take {l : List UInt8} {k : Nat} (hk : k < l.length) : val (l.take (k + 1)) = val (l.take k) + 128 ^ k * (l[k].toNat % 128) := by
  rw [take_snoc' hk, val_append, List.length_take, Nat.min_eq_left (by omega)]
  simp [val]
theorem drop_cons' {α : Type} {l : List α} {k : Nat} (hk : k < l.length) : l.drop k = l[k] :: l.drop (k + 1) := List.drop_eq_getElem_cons hk
/-- A number ahead, and what follows. -/
def rnum (l : List UInt8) : Option (Nat × List UInt8) :=
  if h : hi l < l.length then (if hi l ≤ 8 ∧ (hi l = 0 ∨ l[hi l].toNat ≠ 0) then some (val (l.take (hi l + 1)), l.drop (hi l + 1)) else none) else none
theorem rnum_some {l : List UInt8} (h : hi l < l.length) (h8 : hi l ≤ 8) (h0 : hi l = 0 ∨ l[hi l].toNat ≠ 0) : rnum l = some (val (l.take (hi l + 1)), l.drop (hi l + 1)) := by
  unfold rnum; rw [dif_pos h, if_pos ⟨h8, h0⟩]
theorem rnum_short {l : List UInt8} (h : l.length ≤ hi l) : rnum l = none := by unfold rnum; rw [dif_neg (by omega)]
theorem rnum_long {l : List UInt8} (h : 8 < hi l) : rnum l = none := by
  unfold rnum; split
  · rw [if_neg (by omega)]
  · rfl
theorem rnum_zero {l : List UInt8} (h : hi l < l.length) (h1 : hi l ≠ 0) (h0 : l[hi l].toNat = 0) : rnum l = none := by
  unfold rnum; rw [dif_pos h, if_neg (by omega)]
theorem rnum_bound {l t : List UInt8} {n : Nat} (h : rnum l = some (n, t)) : n < 9223372036854775808 ∧ t.length < l.length := by
  unfold rnum at h
  split at h
  · rename_i h1
    split at h
    · rename_i h2
      injection h with h
      injection h with e1 e2
      subst e1; subst e2
      refine ⟨?_, by rw [List.length_drop]; omega⟩
      have h3 := val_lt (l.take (hi l + 1))
      rw [List.length_take, Nat.min_eq_left (by omega)] at h3
      refine Nat.lt_of_lt_of_le h3 ?_
      have : (128 : Nat) ^ (hi l + 1) ≤ 128 ^ 9 := Nat.pow_le_pow_right (by omega) (by omega)
      have e : (128 : Nat) ^ 9 = 9223372036854775808 := rfl
      omega
    · cases h
  · cases h

/-- A reader: what is unread, and whether it has failed. -/
structure Rd where
  s : List UInt8
  bad : Bool
def Rd.fails : Rd := ⟨[], true⟩
def Rd.num (r : Rd) : Nat × Rd := match rnum r.s with
  | some (n, t) => (n, ⟨t, r.bad⟩)
  | none => (0, Rd.fails)
def Rd.take (r : Rd) (n : Int) : List UInt8 × Rd := if n < 0 ∨ (r.s.length : Int) < n ∨ r.bad = true then ([], Rd.fails) else (r.s.take n.toNat, ⟨r.s.drop n.toNat, r.bad⟩)
def Rd.text (r : Rd) : List UInt8 × Rd := r.num.2.take r.num.1
def Rd.loop : Nat → Rd → List Int → List Int × Rd
  | 0, r, out => (out, r)
  | k + 1, r, out => if r.num.2.bad = true then ([], r.num.2) else Rd.loop k r.num.2 (out ++ [(r.num.1 : Int)])
def Rd.nums (r : Rd) : List Int × Rd := if r.num.2.s.length < r.num.1 then ([], Rd.fails) else if r.num.2.bad = true then ([], r.num.2) else Rd.loop r.num.1 r.num.2 []
def Rd.done (r : Rd) : Bool := !r.bad && r.s.isEmpty
theorem Rd.num_bound (r : Rd) : r.num.1 < 9223372036854775808 ∧ r.num.2.s.length ≤ r.s.length := by
  unfold Rd.num
  cases h : rnum r.s with
  | none => exact ⟨by show 0 < _; omega, Nat.zero_le _⟩
  | some p => have := rnum_bound (n := p.1) (t := p.2) h; exact ⟨this.1, by show p.2.length ≤ _; omega⟩

end Go.Proofs.YtomcdhmcjndioaaGreatDoor
end
section
namespace Go.Proofs.YtomcdhmcjndioaaGreatDoor
open Go.RowKit
set_option linter.unusedVariables false

theorem add_block (a : Addr) (n : Nat) : (a.add n).block = a.block := by unfold Addr.add; split <;> rfl
theorem add_add' (a : Addr) (i j : Nat) : (a.add i).add j = a.add (i + j) := by
  unfold Addr.add
  by_cases hi : i = 0 <;> by_cases hj : j = 0 <;> simp [hi, hj, Nat.add_assoc]

/-- The cells 'xs' lie from 'A' on, in a block below B. -/
def Run (w : World) (B : Nat) (A : Option Addr) (xs : List Value) : Prop :=
  xs = [] ∨ ∃ ad, A = some ad ∧ ad.block < B ∧ ∀ j u, xs[j]? = some u → w.cell? (ad.add j) = some u

section
variable {w w' : World} {B B' : Nat} {A : Option Addr} {xs : List Value}
theorem Run.nil_ : Run w B A [] := .inl rfl
theorem Run.at_ {k : Nat} (h : Run w B A xs) (hk : k < xs.length) : ∃ ad u, A = some ad ∧ ad.block < B ∧ xs[k]? = some u ∧ w.cell? (ad.add k) = some u := by
  rcases h with rfl | ⟨ad, e, hb, hc⟩
  · simp at hk
  · exact ⟨ad, xs[k], e, hb, List.getElem?_eq_getElem hk, hc k _ (List.getElem?_eq_getElem hk)⟩
theorem Run.keep (h : Run w B A xs) (hk : ∀ p : Addr, p.block < B → w'.cell? p = w.cell? p) : Run w' B A xs := by
  rcases h with h | ⟨ad, e, hb, hc⟩
  · exact .inl h
  · exact .inr ⟨ad, e, hb, fun j u hu => (hk _ (by rw [add_block]; exact hb)).trans (hc j u hu)⟩
theorem Run.more (h : Run w B A xs) (hB : B ≤ B') : Run w B' A xs := by
  rcases h with h | ⟨ad, e, hb, hc⟩
  · exact .inl h
  · exact .inr ⟨ad, e, by omega, hc⟩
theorem Run.below (h : Run w B A xs) (hb : Below B w w') : Run w' B A xs := h.keep fun _ hp => hb.cell hp
theorem Run.drew (h : Run w B A xs) : Run w.drew B A xs := h
theorem Run.drewN (h : Run w B A xs) (k : Nat) : Run (w.drewN k) B A xs := h
theorem Run.cut (h : Run w B A xs) {k cap : Nat} (hc : xs.length ≤ cap) :
    Run w B (if cap = k then A else A.map (·.add k)) (xs.drop k) := by
  rcases h with rfl | ⟨ad, rfl, hb, hcell⟩
  · exact .inl (by simp)
  · by_cases hk : xs.length ≤ k
    · exact .inl (by simp [hk])
    · rw [if_neg (by omega)]
      refine .inr ⟨ad.add k, rfl, by rw [add_block]; exact hb, fun j u hu => ?_⟩
      rw [add_add']
      exact hcell _ u (by rw [← hu, List.getElem?_drop])
theorem Run.take (h : Run w B A xs) (k : Nat) : Run w B A (xs.take k) := by
  rcases h with rfl | ⟨ad, rfl, hb, hcell⟩
  · exact .inl (by simp)
  · refine .inr ⟨ad, rfl, hb, fun j u hu => hcell j u ?_⟩
    rw [List.getElem?_take] at hu
    split at hu
    · exact hu
    · cases hu
theorem Run.of_own {base size n : Nat} {e : TypeId} {c : Nat} (h : w.ownsRow base e size (.slice A n c) n xs) : Run w w.heap.size A xs := by
  by_cases hn : n = 0
  · have := h.1; rw [hn] at this; exact .inl (List.eq_nil_of_length_eq_zero (by simpa using this))
  · obtain ⟨g, cap, hv, _, hlt⟩ := h.form (by omega)
    have hA : A = some ⟨g, 0, none⟩ := by injection hv
    subst hA
    exact .inr ⟨_, rfl, hlt, h.cells (g := g) rfl⟩
end

/-- Integers as values, and the bounds that an int of Go keeps. -/
def iv (l : List Int) : List Value := l.map (Value.int .i64)
/-- Element k (0 beyond the end), under a name that simp leaves alone. -/
def gi (l : List Int) (k : Nat) : Int := l.getD k 0
theorem gi_get {l : List Int} {k : Nat} (h : k < l.length) : gi l k = l[k] := by simp [gi, h]
def I64s (l : List Int) : Prop := ∀ x ∈ l, -9223372036854775808 ≤ x ∧ x ≤ 9223372036854775807
/-- 'A' with 'n' places reads as the integers 'l'. -/
def Ints (w : World) (B : Nat) (A : Option Addr) (n : Nat) (l : List Int) : Prop := n = l.length ∧ I64s l ∧ Run w B A (iv l)

section
variable {w w' : World} {B B' n : Nat} {A : Option Addr} {l : List Int}
theorem Ints.at_ {k : Nat} (h : Ints w B A n l) (hk : k < n) : ∃ ad, A = some ad ∧ ad.block < B ∧ w.cell? (ad.add k) = some (.int .i64 (gi l k)) := by
  obtain ⟨rfl, _, hr⟩ := h
  obtain ⟨ad, u, e, hb, hx, hc⟩ := hr.at_ (k := k) (by simpa [iv] using hk)
  refine ⟨ad, e, hb, ?_⟩
  rw [hc, ← hx]
  simp [iv, hk, gi]
theorem Ints.len (h : Ints w B A n l) : l.length = n := h.1.symm
theorem Ints.bounds (h : Ints w B A n l) (k : Nat) : -9223372036854775808 ≤ gi l k ∧ gi l k ≤ 9223372036854775807 := by
  unfold gi
  by_cases hk : k < l.length
  · have := h.2.1 (l[k]) (List.getElem_mem hk)
    simpa [List.getD_eq_getElem?_getD, List.getElem?_eq_getElem hk] using this
  · rw [List.getD_eq_getElem?_getD, List.getElem?_eq_none (by omega)]; simp
theorem Ints.below (h : Ints w B A n l) (hb : Below B w w') : Ints w' B A n l := ⟨h.1, h.2.1, h.2.2.below hb⟩
theorem Ints.more (h : Ints w B A n l) (hB : B ≤ B') : Ints w B' A n l := ⟨h.1, h.2.1, h.2.2.more hB⟩
theorem Ints.drewN (h : Ints w B A n l) (k : Nat) : Ints (w.drewN k) B A n l := h
theorem Ints.nil_ : Ints w B A 0 [] := ⟨rfl, (fun x hx => by cases hx), .inl rfl⟩
end
theorem heap_lt {w : World} {b : Nat} {o : Obj} (h : w.heap[b]? = some o) : b < w.heap.size := (Array.getElem?_eq_some_iff.1 h).1
theorem ownsRow_block {w w' : World} {base : Nat} {e : TypeId} {size : Nat} {v : Value} {n : Nat} {xs : List Value} (h : w.ownsRow base e size v n xs) (hb : ∀ b, v.ownBlock = some b → w'.heap[b]? = w.heap[b]?) : w'.ownsRow base e size v n xs := by
  refine ⟨h.1, ?_⟩
  rcases h.2 with hn | ⟨g, cap, cur, rfl, hbb, hg, rest⟩
  · exact .inl hn
  · exact .inr ⟨g, cap, cur, rfl, hbb, (hb g rfl).trans hg, rest⟩
theorem int_info : (Tryz.prog.info? 3).map (fun i => (i.zero, i.size, i.bytes)) = some (some (.int .i64 0), 1, 8) := by kernel_rfl
theorem I64s.snoc {l : List Int} (h : I64s l) {x : Int} (hx : -9223372036854775808 ≤ x ∧ x ≤ 9223372036854775807) : I64s (l ++ [x]) := by
  intro y hy
  rcases List.mem_append.1 hy with h1 | h1
  · exact h y h1
  · rw [List.mem_singleton] at h1; subst h1; exact hx
theorem iv_snoc (l : List Int) (x : Int) : iv (l ++ [x]) = iv l ++ [.int .i64 x] := by simp [iv]
/-- What a collecting loop holds: 'v' owns the integers 'acc' in memory of its own. -/
def OwnInts (w : World) (B : Nat) (v : Value) (acc : List Int) : Prop := w.ownsRow B 3 1 v acc.length (iv acc) ∧ I64s acc
theorem OwnInts.nil_ (w : World) (B : Nat) : OwnInts w B (.slice none 0 0) [] := ⟨World.ownsRow_nil _ _ _ _, fun x hx => by cases hx⟩
theorem OwnInts.ints {w : World} {B : Nat} {v : Value} {acc : List Int} (h : OwnInts w B v acc) : ∃ A c, v = .slice A acc.length c ∧ acc.length ≤ c ∧ c ≤ maxLen ∧ Ints w w.heap.size A acc.length acc := by
  rcases h.1.2 with ⟨rfl, hn⟩ | ⟨g, cap, cur, rfl, hb, hg, h1, h2, h3, h4⟩
  · rw [hn]
    have : acc = [] := List.eq_nil_of_length_eq_zero hn
    subst this
    exact ⟨none, 0, rfl, Nat.le_refl _, by simp, Ints.nil_⟩
  · exact ⟨_, cap, rfl, h1, h2, rfl, h.2, Run.of_own h.1⟩
theorem OwnInts.alloc {w : World} {B : Nat} {v : Value} {acc : List Int} (h : OwnInts w B v acc) (o : Obj) : OwnInts (w.alloc o) B v acc := ⟨h.1.alloc o, h.2⟩
theorem OwnInts.base {w : World} {B : Nat} {v : Value} {acc : List Int} (h : OwnInts w B v acc) : ∀ k, v.ownBlock = some k → B ≤ k := fun k hk => (h.1.lt k hk).1
theorem OwnInts.block {w w' : World} {B : Nat} {v : Value} {acc : List Int} (h : OwnInts w B v acc) (hb : ∀ b, v.ownBlock = some b → w'.heap[b]? = w.heap[b]?) : OwnInts w' B v acc := ⟨ownsRow_block h.1 hb, h.2⟩
theorem OwnInts.more {w : World} {B B' : Nat} {v : Value} {acc : List Int} (h : OwnInts w B v acc) (hB : B' ≤ B) : OwnInts w B' v acc := by
  obtain ⟨⟨h0, h1⟩, h2⟩ := h
  refine ⟨⟨h0, ?_⟩, h2⟩
  rcases h1 with h1 | ⟨g, cap, cur, e, hb, r⟩
  · exact .inl h1
  · exact .inr ⟨g, cap, cur, e, by omega, r⟩

/-- append of one integer onto a slice of the call's own; the world behind it may forget the box of the new element. -/
theorem wpList_push {ops : Array Oper} {rest : List Oper} {o : Oper} {a : Act} {W : World} {Q : Exit → Act → World → Prop} {B : Nat} {y : Int} {v : Value} {acc : List Int} (hown : OwnInts W B v acc) (hB : B ≤ W.heap.size)
    (hy : -9223372036854775808 ≤ y ∧ y ≤ 9223372036854775807) (hlen : acc.length < 1099511627776) (hgd : o.guard = none) (s x : Operand) (t : TypeId) (c : Nat)
    (ho : o.op = .call { callee := .builtin .append, args := #[s, x], argTypes := #[t, t] }) (ht : Tryz.prog.underlying t = some (.slice 3))
    (hs : a.eval s = v) (hx : a.eval x = .slice (some ⟨W.heap.size, 0, none⟩) 1 c)
    (h : ∀ v' w', OwnInts w' B v' (acc ++ [y]) → W.grownBy w' v.ownBlock → (v'.ownBlock = v.ownBlock ∨ ∃ k, v'.ownBlock = some k ∧ W.heap.size ≤ k) → wpList Tryz.prog ops Q rest (a.put o.dst v') w') :
    wpList Tryz.prog ops Q (o :: rest) a (W.alloc (.cells #[.int .i64 y] 3)) := by
  obtain ⟨i0, hi, hz0, hz1, hz2⟩ := info_parts int_info
  refine wpList_append_own_at _ hgd s x t ho B 3 i0 _ 1 8 ht hi hz0 hz1 hz2 rfl (by omega) v acc.length (iv acc) hs (hown.alloc _).1 ⟨W.heap.size, 0, none⟩ 1 c [.int .i64 y] hx rfl (cell_one_new _ _ _) ?_ (by simp only [maxLen]; omega) (by omega) (by simp; omega) ?_
  · intro u hu; simp at hu; subst hu; rfl
  · intro v' w' h1 h2 _ h4
    refine h v' w' ⟨?_, hown.2.snoc hy⟩ ?_ ?_
    · rw [iv_snoc]; simpa using h1
    · have h5 := World.grownBy_alloc W (.cells #[.int .i64 y] 3) v.ownBlock
      exact ⟨h2.os.trans h5.os, h2.tape.trans h5.tape, h2.output.trans h5.output, Nat.le_trans h5.size h2.size, fun k hk hne => (h2.block k (by simp; omega) hne).trans (h5.block k hk hne)⟩
    · rcases h4 with h4 | h4
      · exact .inl h4
      · exact .inr ⟨_, h4, by simp⟩

/-- Outside F the world w' is as w was. -/
structure Off (F : Nat → Prop) (w w' : World) : Prop where
  os : w'.os = w.os
  tape : w'.tape = w.tape
  output : w'.output = w.output
  size : w.heap.size ≤ w'.heap.size
  block : ∀ k, k < w.heap.size → ¬ F k → w'.heap[k]? = w.heap[k]?

namespace Off
variable {F G : Nat → Prop} {a b c w w' : World}
theorem refl (F : Nat → Prop) (w : World) : Off F w w := ⟨rfl, rfl, rfl, Nat.le_refl _, fun _ _ _ => rfl⟩
theorem trans (h : Off F a b) (k : Off F b c) : Off F a c :=
  ⟨k.os.trans h.os, k.tape.trans h.tape, k.output.trans h.output, Nat.le_trans h.size k.size, fun i hi hF => (k.block i (Nat.lt_of_lt_of_le hi h.size) hF).trans (h.block i hi hF)⟩
theorem mono (h : Off F a b) (hF : ∀ k, k < a.heap.size → F k → G k) : Off G a b := ⟨h.os, h.tape, h.output, h.size, fun i hi hn => h.block i hi fun hf => hn (hF i hi hf)⟩
/-- What the second step touches is new or was touched by the first. -/
theorem andThen (h : Off F a b) (k : Off G b c) (hG : ∀ i, i < a.heap.size → G i → F i) : Off F a c :=
  ⟨k.os.trans h.os, k.tape.trans h.tape, k.output.trans h.output, Nat.le_trans h.size k.size, fun i hi hF => (k.block i (Nat.lt_of_lt_of_le hi h.size) fun hg => hF (hG i hi hg)).trans (h.block i hi hF)⟩
theorem alloc (h : Off F a b) (o : Obj) : Off F a (b.alloc o) :=
  h.andThen (G := fun _ => False) ⟨rfl, rfl, rfl, by simp, fun k hk _ => heap_alloc_old b o hk⟩ fun _ _ h => h.elim
theorem setCell (h : Off F a b) {p : Addr} (hp : F p.block ∨ a.heap.size ≤ p.block) (u : Value) : Off F a (b.setCell p u) :=
  h.andThen (G := fun k => k = p.block) ⟨rfl, rfl, rfl, by simp [World.setCell], fun k hk hn => heap_setCell_other b p k u hn⟩ fun i hi e => by subst e; rcases hp with h | h; exact h; omega
theorem drew (h : Off F a b) : Off F a b.drew := ⟨h.os, h.tape, h.output, h.size, h.block⟩
theorem drewN (h : Off F a b) (n : Nat) : Off F a (b.drewN n) := ⟨h.os, h.tape, h.output, h.size, h.block⟩
theorem grown (h : Off F a b) {row : Option Nat} (hg : b.grownBy c row) (hr : ∀ k, row = some k → F k ∨ a.heap.size ≤ k) : Off F a c :=
  h.andThen (G := fun k => row = some k) ⟨hg.os, hg.tape, hg.output, hg.size, fun k hk hn => hg.block k hk fun e => hn e.symm⟩ fun i hi e => by rcases hr i e with h | h; exact h; omega
theorem below {B : Nat} (h : Off F a b) (hB : B ≤ a.heap.size) (hF : ∀ k, F k → B ≤ k) : Below B a b :=
  ⟨h.os, h.tape, h.output, h.size, fun k hk => h.block k (by omega) fun hf => by have := hF k hf; omega⟩
theorem of_below {B : Nat} (h : Below B a b) (hB : ∀ k, k < a.heap.size → B ≤ k → F k) : Off F a b :=
  ⟨h.os, h.tape, h.output, h.size, fun k hk hn => h.block k (by rcases Nat.lt_or_ge k B with h | h; exact h; exact absurd (hB k hk h) hn)⟩
end Off


/-- A list of bytes as a string of Go. -/
def ba (l : List UInt8) : ByteArray := ⟨l.toArray⟩
theorem ba_list (l : List UInt8) : (ba l).data.toList = l := rfl
theorem ba_eq (s : ByteArray) : ba s.data.toList = s := rfl
theorem ba_size (l : List UInt8) : (ba l).size = l.length := by unfold ba; simp [ByteArray.size]
theorem ba_toList (l : List UInt8) : (ba l).toList = l := by rw [ByteArray.toList_eq]; rfl
theorem ba_inj {a b : List UInt8} : ba a = ba b ↔ a = b := ⟨fun h => by rw [← ba_list a, h, ba_list], fun h => by rw [h]⟩
theorem ba_get (l : List UInt8) (k : Nat) (h : k < (ba l).size) : (ba l)[k] = l[k]'(by rw [← ba_size]; exact h) := rfl
theorem ba_drop (l : List UInt8) (k : Nat) : (ba l).extract k (ba l).size = ba (l.drop k) := by
  rw [ba_size]; unfold ba; apply ByteArray.ext; simp
  exact List.take_of_length_le (by simp)
theorem ba_cut (l : List UInt8) (i j : Nat) : (ba l).extract i j = ba ((l.take j).drop i) := by
  unfold ba; apply ByteArray.ext; simp [List.extract_eq_take_drop, List.drop_take]
theorem ba_append (a b : List UInt8) : ba a ++ ba b = ba (a ++ b) := by unfold ba; apply ByteArray.ext; simp
end Go.Proofs.YtomcdhmcjndioaaGreatDoor
end
section
namespace Go.Proofs.YtomcdhmcjndioaaGreatDoor
set_option linter.unusedVariables false

/-- A token: its kind, its bytes. -/
structure Tok where
  kind : Int
  text : List UInt8
deriving DecidableEq
def blankB (c : UInt8) : Bool := c == 9 || c == 10 || c == 13 || c == 32
def specials : List UInt8 := [40, 41, 60, 62, 91, 93, 58, 59, 64, 92, 44, 46, 34]
def atomB (c : UInt8) : Bool := decide (32 < c) && c != 127 && !specials.contains c
/-- How far the byte that closes lies (behind it), or nothing. -/
def closeP (close : UInt8) : Nat → List UInt8 → Option Nat
  | _, [] => none
  | d, [c] => if c = 92 then none else if c = close ∧ d = 1 then some 1 else none
  | d, c :: x :: r =>
    if c = 92 then (closeP close d r).map (· + 2)
    else if c = close then (if d = 1 then some 1 else (closeP close (d - 1) (x :: r)).map (· + 1))
    else if c = 40 ∧ close = 41 then (closeP close (d + 1) (x :: r)).map (· + 1)
    else (closeP close d (x :: r)).map (· + 1)
/-- The kind and the closing byte of a token that opens with c. -/
def opens (c : UInt8) : Option (Int × UInt8) := if c = 40 then some (3, 41) else if c = 34 then some (2, 34) else if c = 91 then some (5, 93) else none
/-- The first token's kind and length. -/
def frontP : List UInt8 → Int × Nat
  | [] => (7, 0)
  | c :: r =>
    if blankB c = true then (6, ((c :: r).takeWhile blankB).length)
    else match opens c with
      | some (k, z) => (match closeP z 1 r with
        | some n => (k, n + 1)
        | none => (7, r.length + 1))
      | none => if specials.contains c = true then (4, 1) else if atomB c = true then (1, ((c :: r).takeWhile atomB).length) else (7, 1)
theorem closeP_le (close : UInt8) : ∀ (d : Nat) (l : List UInt8) (n : Nat), closeP close d l = some n → 0 < n ∧ n ≤ l.length
  | d, [], n, h => by unfold closeP at h; cases h
  | d, [c], n, h => by
    unfold closeP at h
    split at h
    · cases h
    · split at h
      · injection h with h; subst h; simp
      · cases h
  | d, c :: x :: r, n, h => by
    unfold closeP at h
    split at h
    · obtain ⟨m, hm, rfl⟩ := Option.map_eq_some_iff.1 h
      have := closeP_le close d r m hm
      simp only [List.length_cons]; omega
    · split at h
      · split at h
        · injection h with h; subst h; simp
        · obtain ⟨m, hm, rfl⟩ := Option.map_eq_some_iff.1 h
          have := closeP_le close (d - 1) (x :: r) m hm
          simp only [List.length_cons] at this ⊢; omega
      · split at h
        · obtain ⟨m, hm, rfl⟩ := Option.map_eq_some_iff.1 h
          have := closeP_le close (d + 1) (x :: r) m hm
          simp only [List.length_cons] at this ⊢; omega
        · obtain ⟨m, hm, rfl⟩ := Option.map_eq_some_iff.1 h
          have := closeP_le close d (x :: r) m hm
          simp only [List.length_cons] at this ⊢; omega
theorem frontP_cons (c : UInt8) (r : List UInt8) : frontP (c :: r) = if blankB c = true then (6, ((c :: r).takeWhile blankB).length)
    else match opens c with
      | some (k, z) => (match closeP z 1 r with
        | some n => (k, n + 1)
        | none => (7, r.length + 1))
      | none => if specials.contains c = true then (4, 1) else if atomB c = true then (1, ((c :: r).takeWhile atomB).length) else (7, 1) := rfl
theorem frontP_len {l : List UInt8} (h : l ≠ []) : 0 < (frontP l).2 ∧ (frontP l).2 ≤ l.length := by
  cases l with
  | nil => exact absurd rfl h
  | cons c r =>
    rw [frontP_cons]
    split
    · rename_i hb
      refine ⟨?_, (List.takeWhile_prefix _).length_le⟩
      rw [List.takeWhile_cons, if_pos hb]; simp
    · split
      · split
        · rename_i n hn
          have := closeP_le _ _ _ _ hn
          simp only [List.length_cons]; omega
        · simp
      · split
        · simp
        · split
          · rename_i ha
            refine ⟨?_, (List.takeWhile_prefix _).length_le⟩
            rw [List.takeWhile_cons, if_pos ha]; simp
          · simp
/-- The tokens of a string. -/
def scanF : Nat → List UInt8 → List Tok
  | 0, _ => []
  | f + 1, l => if l = [] then [] else ⟨(frontP l).1, l.take (frontP l).2⟩ :: scanF f (l.drop (frontP l).2)
def scanP (l : List UInt8) : List Tok := scanF l.length l
theorem scanF_more : ∀ (f g : Nat) (l : List UInt8), l.length ≤ f → l.length ≤ g → scanF f l = scanF g l
  | 0, 0, l, _, _ => rfl
  | 0, g + 1, l, h, _ => by
    have : l = [] := List.eq_nil_of_length_eq_zero (by omega)
    unfold scanF; rw [if_pos this]
  | f + 1, 0, l, _, h => by
    have : l = [] := List.eq_nil_of_length_eq_zero (by omega)
    conv => lhs; unfold scanF
    rw [if_pos this]; rfl
  | f + 1, g + 1, l, hf, hg => by
    unfold scanF
    by_cases e : l = []
    · rw [if_pos e, if_pos e]
    · rw [if_neg e, if_neg e]
      have := (frontP_len e).1
      rw [scanF_more f g (l.drop (frontP l).2) (by rw [List.length_drop]; omega) (by rw [List.length_drop]; omega)]
theorem scanP_cons {l : List UInt8} (h : l ≠ []) : scanP l = ⟨(frontP l).1, l.take (frontP l).2⟩ :: scanP (l.drop (frontP l).2) := by
  have h1 := frontP_len h
  unfold scanP
  cases e : l.length with
  | zero => exact absurd (List.eq_nil_of_length_eq_zero e) h
  | succ n =>
    conv => lhs; unfold scanF
    rw [if_neg h, scanF_more n (l.drop (frontP l).2).length _ (by rw [List.length_drop]; omega) (Nat.le_refl _)]
theorem scanP_nil : scanP [] = [] := rfl
def keepB (t : Tok) : Bool := decide (t.kind ≠ 6) && decide (t.kind ≠ 3)
def bareP (l : List Tok) : List Tok := l.filter keepB
def joinP (l : List Tok) : List UInt8 := l.flatMap (·.text)
/-- The meaning of what stands between quotes. -/
def unescP : List UInt8 → List UInt8
  | [] => []
  | [c] => if c = 92 then [] else if c = 10 ∨ c = 13 then [] else [c]
  | c :: x :: r => if c = 92 then x :: unescP r else if c = 10 ∨ c = 13 then unescP (x :: r) else c :: unescP (x :: r)
def meanP (t : Tok) : List UInt8 := if (t.kind ≠ 2 ∧ t.kind ≠ 3) ∨ t.text.length < 2 then t.text else unescP ((t.text.drop 1).take (t.text.length - 2))
/-- Rows of tokens, parted at semicolons. -/
def semiB (t : Tok) : Bool := decide (t.kind = 4) && decide (t.text = [59])
def rowsP : List Tok → List (List Tok)
  | [] => [[]]
  | t :: r => if semiB t = true then [] :: rowsP r else match rowsP r with
    | [] => [[t]]
    | a :: b => (t :: a) :: b
theorem rowsP_ne : ∀ l, rowsP l ≠ []
  | [] => by simp [rowsP]
  | t :: r => by
    unfold rowsP
    split
    · simp
    · split <;> simp
end Go.Proofs.YtomcdhmcjndioaaGreatDoor
end
section
namespace Go.Proofs.YtomcdhmcjndioaaGreatDoor
set_option linter.unusedVariables false

def bt (l : List UInt8) (i : Nat) : Nat := (l.getD i 0).toNat
theorem bt_lt (l : List UInt8) (i : Nat) : bt l i < 256 := (l.getD i 0).toNat_lt
/-- The rune at the head of a list, and how many bytes it takes. -/
def uN (l : List UInt8) : Nat × Nat := Lib.decodeN l.length (bt l 0) (bt l 1) (bt l 2) (bt l 3)
theorem get_ba (l : List UInt8) (i : Nat) : (ba l).get! i = l.getD i 0 := by
  unfold ba ByteArray.get!
  simp only [getElem!_def]
  simp
  rfl
theorem uN_at (l : List UInt8) (pos : Nat) : Utf8.decode (ba l) pos = uN (l.drop pos) := by
  rw [Lib.decode_at, ba_size]
  unfold uN bt
  rw [get_ba, get_ba, get_ba, get_ba, List.length_drop]
  have h : ∀ i, (l.drop pos).getD i 0 = l.getD (pos + i) 0 := fun i => by simp [List.getD_eq_getElem?_getD, List.getElem?_drop]
  rw [h, h, h, h]
  rfl
set_option maxHeartbeats 4000000 in
/-- What a rune's width says. -/
theorem uN_cases (l : List UInt8) (h : l ≠ []) :
    ((uN l).2 = 1 ∧ (bt l 0 < 128 ∧ (uN l).1 = bt l 0 ∨ 128 ≤ bt l 0 ∧ (uN l).1 = 65533)) ∨
    ((uN l).2 = 2 ∧ 2 ≤ l.length ∧ bt l 0 / 32 = 6 ∧ bt l 1 / 64 = 2 ∧ (uN l).1 = bt l 0 % 32 * 64 + bt l 1 % 64 ∧ 128 ≤ (uN l).1) ∨
    ((uN l).2 = 3 ∧ 3 ≤ l.length ∧ bt l 0 / 16 = 14 ∧ bt l 1 / 64 = 2 ∧ bt l 2 / 64 = 2 ∧ (uN l).1 = bt l 0 % 16 * 4096 + bt l 1 % 64 * 64 + bt l 2 % 64 ∧ 2048 ≤ (uN l).1 ∧ ((uN l).1 < 55296 ∨ 57344 ≤ (uN l).1)) ∨
    ((uN l).2 = 4 ∧ 4 ≤ l.length ∧ bt l 0 / 8 = 30 ∧ bt l 1 / 64 = 2 ∧ bt l 2 / 64 = 2 ∧ bt l 3 / 64 = 2 ∧ (uN l).1 = bt l 0 % 8 * 262144 + bt l 1 % 64 * 4096 + bt l 2 % 64 * 64 + bt l 3 % 64 ∧ 65536 ≤ (uN l).1 ∧ (uN l).1 ≤ 1114111) := by
  unfold uN Lib.decodeN
  have b0 := bt_lt l 0
  generalize bt l 0 = x0 at *
  generalize bt l 1 = x1 at *
  generalize bt l 2 = x2 at *
  generalize bt l 3 = x3 at *
  generalize l.length = n at *
  repeat' split
  · exact .inl ⟨rfl, .inl ⟨by assumption, rfl⟩⟩
  · exact .inr (.inl ⟨rfl, by omega, by omega, by omega, rfl, by omega⟩)
  · exact .inl ⟨rfl, .inr ⟨by omega, rfl⟩⟩
  · exact .inr (.inr (.inl ⟨rfl, by omega, by omega, by omega, by omega, rfl, by omega, by omega⟩))
  · exact .inl ⟨rfl, .inr ⟨by omega, rfl⟩⟩
  · exact .inr (.inr (.inr ⟨rfl, by omega, by omega, by omega, by omega, by omega, rfl, by omega, by omega⟩))
  · exact .inl ⟨rfl, .inr ⟨by omega, rfl⟩⟩
  · exact .inl ⟨rfl, .inr ⟨by omega, rfl⟩⟩
theorem uN_pos (l : List UInt8) (h : l ≠ []) : 1 ≤ (uN l).2 ∧ (uN l).2 ≤ l.length ∧ (uN l).2 ≤ 4 ∧ (uN l).1 ≤ 1114111 := by
  have hl : 1 ≤ l.length := List.length_pos_iff.2 h
  have := bt_lt l 0; have := bt_lt l 1; have := bt_lt l 2
  rcases uN_cases l h with h1 | h1 | h1 | h1 <;> omega
end Go.Proofs.YtomcdhmcjndioaaGreatDoor
end
section
namespace Go.Proofs.YtomcdhmcjndioaaGreatDoor
set_option linter.unusedVariables false

/-- Lower case (ASCII). -/
def smallB (c : UInt8) : UInt8 := if 65 ≤ c ∧ c ≤ 90 then c + 32 else c
def smallP (l : List UInt8) : List UInt8 := l.map smallB
theorem smallP_len (l : List UInt8) : (smallP l).length = l.length := List.length_map _
def letterB (c : UInt8) : Bool := decide (97 ≤ c ∧ c ≤ 122) || decide (65 ≤ c ∧ c ≤ 90) || decide (48 ≤ c ∧ c ≤ 57)
def wordBytes : List UInt8 := [33, 35, 36, 38, 94, 95, 46, 43, 45]
def wordB (c : UInt8) : Bool := letterB c || wordBytes.contains c
def isWord (l : List UInt8) : Bool := l.all wordB && !l.isEmpty
/-- Parted at the first byte c. -/
def cutP (c : UInt8) : List UInt8 → Option (List UInt8 × List UInt8)
  | [] => none
  | x :: r => if x = c then some ([], r) else (cutP c r).map fun q => (x :: q.1, q.2)
theorem cutP_some {c : UInt8} : ∀ {l a b : List UInt8}, cutP c l = some (a, b) → l = a ++ c :: b ∧ c ∉ a
  | [], a, b, h => by cases h
  | x :: r, a, b, h => by
    unfold cutP at h
    split at h
    · rename_i e
      injection h with h
      injection h with h1 h2
      subst h1; subst h2; subst e
      exact ⟨rfl, by simp⟩
    · rename_i e
      obtain ⟨q, hq, h2⟩ := Option.map_eq_some_iff.1 h
      injection h2 with h3 h4
      subst h3; subst h4
      obtain ⟨h5, h6⟩ := cutP_some (a := q.1) (b := q.2) hq
      exact ⟨by rw [List.cons_append, ← h5], by simp only [List.mem_cons, not_or]; exact ⟨fun h => e h.symm, h6⟩⟩
theorem cutP_none {c : UInt8} : ∀ {l : List UInt8}, cutP c l = none ↔ c ∉ l
  | [] => by simp [cutP]
  | x :: r => by
    unfold cutP
    by_cases e : x = c
    · rw [if_pos e]; simp [e]
    · rw [if_neg e, Option.map_eq_none_iff, cutP_none, List.mem_cons, not_or]
      exact ⟨fun h => ⟨fun h2 => e h2.symm, h⟩, fun h => h.2⟩
/-- A decimal number in its canonical form. -/
def decV (l : List UInt8) : Nat := l.foldl (fun a c => a * 10 + (c.toNat - 48)) 0
def digitB (c : UInt8) : Bool := decide (48 ≤ c ∧ c ≤ 57)
def decP (l : List UInt8) (lo hi : Int) : Option Int :=
  let neg := l.head? = some 45
  let d := if neg then l.drop 1 else l
  if d.all digitB = true ∧ d ≠ [] ∧ ¬ (d.head? = some 48 ∧ l ≠ [48]) then
    let v : Int := if neg then -(decV d : Int) else (decV d : Int)
    if lo ≤ v ∧ v ≤ hi then some v else none
  else none
/-- A parameter's name, decoded: its name, its section, whether it is extended. -/
structure Spot3 where
  name : List UInt8
  section_ : Int
  wide : Bool
deriving DecidableEq
/-- Parted at the last byte c. -/
def lastP (c : UInt8) (l : List UInt8) : Option (List UInt8 × List UInt8) := (cutP c l.reverse).map fun q => (q.2.reverse, q.1.reverse)
def whereP (n : List UInt8) : Spot3 :=
  let w := decide (1 < n.length) && decide (n.getLast? = some 42)
  let m := if w = true then n.dropLast else n
  match lastP 42 m with
  | none => ⟨m, -1, w⟩
  | some q => match decP q.2 0 63 with
    | none => ⟨m, -1, w⟩
    | some v => ⟨q.1, v, w⟩
/-- The name and the value of a row. -/
def pairG : List UInt8 → List Tok → Option (List UInt8 × List UInt8)
  | _, [] => none
  | name, t :: r => match (if t.kind = 1 then cutP 61 t.text else none) with
    | none => pairG (name ++ t.text) r
    | some q => some (smallP (name ++ q.1), match q.2, r with
      | [], u :: _ => if u.kind = 2 then meanP u else joinP r
      | b, _ => b ++ joinP r)
def pairP (l : List Tok) : List UInt8 × List UInt8 := (pairG [] l).getD ([], [])
/-- Hexadecimal digits. -/
def hexV (c : UInt8) : Option Nat := if 48 ≤ c ∧ c ≤ 57 then some (c.toNat - 48) else if 97 ≤ c ∧ c ≤ 102 then some (c.toNat - 87) else if 65 ≤ c ∧ c ≤ 70 then some (c.toNat - 55) else none
def openP : List UInt8 → List UInt8
  | c :: x :: y :: r => if c = 37 then (match hexV x, hexV y with
      | some a, some b => UInt8.ofNat (a * 16 + b) :: openP r
      | _, _ => c :: openP (x :: y :: r)) else c :: openP (x :: y :: r)
  | l => l
/-- The charset's name and the rest. -/
def splitP (l : List UInt8) : List UInt8 × List UInt8 := match cutP 39 l with
  | none => ([], l)
  | some q => match cutP 39 q.2 with
    | none => ([], l)
    | some p => (q.1, p.2)
/-- Valid UTF-8 out of whatever bytes. -/
def repairF : Nat → List UInt8 → List UInt8
  | 0, _ => []
  | f + 1, l => if l = [] then [] else Lib.encodeRune (uN l).1 ++ repairF f (l.drop (uN l).2)
def repairP (l : List UInt8) : List UInt8 := repairF l.length l
def windowsT : List Nat := [8364, 129, 8218, 402, 8222, 8230, 8224, 8225, 710, 8240, 352, 8249, 338, 141, 381, 143, 144, 8216, 8217, 8220, 8221, 8226, 8211, 8212, 732, 8482, 353, 8250, 339, 157, 382, 376]
def signA (c : UInt8) : Nat := if c < 128 then c.toNat else 65533
def signL (c : UInt8) : Nat := c.toNat
def signW (c : UInt8) : Nat := if c < 128 ∨ 160 ≤ c then c.toNat else windowsT.getD (c.toNat - 128) 0
def bytesBy (sign : UInt8 → Nat) (l : List UInt8) : List UInt8 := l.flatMap fun c => Lib.encodeRune (sign c)
def setOf (name : List UInt8) : Nat :=
  if name = [117, 115, 45, 97, 115, 99, 105, 105] ∨ name = [97, 115, 99, 105, 105] then 1
  else if name = [117, 116, 102, 45, 56] ∨ name = [117, 116, 102, 56] then 2
  else if name = [105, 115, 111, 45, 56, 56, 53, 57, 45, 49] ∨ name = [108, 97, 116, 105, 110, 49] then 3
  else if name = [119, 105, 110, 100, 111, 119, 115, 45, 49, 50, 53, 50] ∨ name = [99, 112, 49, 50, 53, 50] then 4 else 0
def decodeSet (name s : List UInt8) : List UInt8 := match setOf (smallP name) with
  | 1 => bytesBy signA s
  | 2 => repairP s
  | 3 => bytesBy signL s
  | _ => bytesBy signW s
def meantP (name s : List UInt8) : List UInt8 := if name = [] then repairP s else decodeSet name s
/-- A parameter as it was written. -/
structure One1 where
  at_ : Spot3
  value : List UInt8
def onesP (l : List (List Tok)) : List One1 := (l.map pairP).filterMap fun q => if q.1 = [] then none else some ⟨whereP q.1, q.2⟩
def firstP (l : List One1) (name : List UInt8) (sec : Int) : Option One1 := l.find? fun x => decide (x.at_.name = name) && decide (x.at_.section_ = sec)
def restG (l : List One1) (name : List UInt8) : Nat → Int → List UInt8
  | 0, _ => []
  | f + 1, k => match firstP l name k with
    | none => []
    | some x => (if x.at_.wide = true then openP x.value else x.value) ++ restG l name f (k + 1)
def valueP (l : List One1) (name : List UInt8) : Option (List UInt8) := match firstP l name 0 with
  | none => match l.find? (fun x => decide (x.at_ = ⟨name, -1, true⟩)) with
    | some x => some (meantP (splitP x.value).1 (openP (splitP x.value).2))
    | none => (firstP l name (-1)).map (·.value)
  | some x =>
    if x.at_.wide = true then some (meantP (splitP x.value).1 (openP (splitP x.value).2 ++ restG l name 63 1)) else some (x.value ++ restG l name 63 1)
def namesP (l : List One1) : List (List UInt8) := l.foldl (fun a x => if x.at_.name ∈ a then a else a ++ [x.at_.name]) []
def paramsP (l : List (List Tok)) : List (List UInt8 × List UInt8) := (namesP (onesP l)).filterMap fun n => (valueP (onesP l) n).map fun v => (n, v)
/-- What a content type is. -/
structure Typ where
  kind : List UInt8
  sub : List UInt8
  params : List (List UInt8 × List UInt8)
def tokRows (s : List UInt8) : List (List Tok) := rowsP (bareP (scanP s))
def parseT (s : List UInt8) : Typ × Bool := match cutP 47 (joinP ((tokRows s).headD [])) with
  | none => (⟨[116, 101, 120, 116], [112, 108, 97, 105, 110], []⟩, false)
  | some q => if isWord q.1 = true ∧ isWord q.2 = true then (⟨smallP q.1, smallP q.2, paramsP ((tokRows s).drop 1)⟩, true) else (⟨[116, 101, 120, 116], [112, 108, 97, 105, 110], []⟩, false)
def dispT (s : List UInt8) : List UInt8 × List (List UInt8 × List UInt8) :=
  let f := smallP (joinP ((tokRows s).headD []))
  (if isWord f = true then f else [], paramsP ((tokRows s).drop 1))
def paramT (l : List (List UInt8 × List UInt8)) (name : List UInt8) : Option (List UInt8) := (l.find? fun p => decide (smallP p.1 = smallP name)).map (·.2)
/-- A value with its separator. -/
def plainBut : List UInt8 := [40, 41, 60, 62, 64, 44, 59, 58, 92, 34, 47, 91, 93, 63, 61]
def allB (low : UInt8) (but l : List UInt8) : Bool := l.all fun c => decide (low ≤ c ∧ c ≤ 126) && !but.contains c
def hexU (n : Nat) : UInt8 := UInt8.ofNat (if n < 10 then 48 + n else 55 + n)
def fmtV (v : List UInt8) : List UInt8 :=
  if v ≠ [] ∧ allB 33 plainBut v = true then 61 :: v
  else if allB 32 [] v = true then [61, 34] ++ (v.flatMap fun c => if c = 92 ∨ c = 34 then [92, c] else [c]) ++ [34]
  else [42, 61, 117, 116, 102, 45, 56, 39, 39] ++ v.flatMap fun c => if letterB c = true ∨ c = 45 ∨ c = 46 ∨ c = 95 ∨ c = 126 then [c] else [37, hexU (c.toNat / 16), hexU (c.toNat % 16)]
def lineP (first : List UInt8) (l : List (List UInt8 × List UInt8)) : List UInt8 := first ++ l.flatMap fun p => [59, 32] ++ p.1 ++ fmtV p.2
end Go.Proofs.YtomcdhmcjndioaaGreatDoor
end
section
namespace Go.Proofs.YtomcdhmcjndioaaGreatDoor
open Go.RowKit
set_option linter.unusedVariables false

/-- A string handed back. -/
def StrPost (w : World) (l : List UInt8) (e : Ending) (w' : World) : Prop := e = .returned (.string (ba l)) ∧ Below w.heap.size w w'
theorem int_eq {a b : Int} (h : a = b) : Value.int .i64 a = Value.int .i64 b := by rw [h]
theorem Below.drewN {B : Nat} {a w : World} (h : Below B a w) (k : Nat) : Below B a (w.drewN k) := ⟨h.os, h.tape, h.output, h.size, h.block⟩
def Callable (f : FuncId) : Prop := ∀ (args : Array Value) (w : World), (callFunc f args).run Tryz.prog w = .ok (.enter f args) w
theorem callable_of {f : FuncId} {fn : Func} (hf : Tryz.prog.funcs[f]? = some fn) (hn : (fn.name == "runtime.NumGoroutine") = false) (hb : fn.body.isNone = false) : Callable f := fun args w => by
  simp only [callFunc, Sem.run_bind, run_program, Result.andThen_ok, hf, hn, hb, if_false, Bool.false_eq_true, Sem.run_pure]
/-- A call of a function value with two arguments. -/
theorem wpList_callv2 {ops : Array Oper} {rest : List Oper} {o : Oper} {a : Act} {w : World} {Q : Exit → Act → World → Prop} {R : World → Prop} {fk : FuncId} {ck : Array Value} {v u : Value} (hgd : o.guard = none) (f x y : Operand) (t t2 : TypeId)
    (ho : o.op = .call { callee := .value f, args := #[x, y], argTypes := #[t, t2] }) (hf : a.eval f = .func (.func fk) #[] ck) (hx : a.eval x = v) (hy : a.eval y = u) (hcall : Callable fk)
    (h : Calls Tryz.prog fk (#[v, u] ++ ck) w fun e w' => (∃ r, e = .returned r) ∧ R w') (hK : ∀ r w', R w' → wpList Tryz.prog ops Q rest (a.put o.dst r) w') : wpList Tryz.prog ops Q (o :: rest) a w := by
  refine wpList_plain hgd fun next hnext => ?_
  have hr : (execOp a.eval o).run Tryz.prog w = .ok (.enter fk (#[v, u] ++ ck)) w := by
    unfold execOp
    simp only [ho, resolve, hf, Deferred.ofValue, invoke, Sem.run_bind, Sem.run_pure, Result.andThen_ok, List.map_toArray, List.map_cons, List.map_nil, hx, hy]
    simpa using hcall (#[v, u] ++ ck) w
  unfold Oper.wp
  rw [hr, Oper.upon_enter]
  refine h.mono ?_
  rintro e w' ⟨⟨r, rfl⟩, hR⟩
  exact hnext _ _ (hK r w' hR)

def cmpI (a b : Int) : Int := if a < b then -1 else if b < a then 1 else 0
theorem compare_lt (a b : Int) (w : World) (h : a < b) : Calls Tryz.prog 83 #[.int .i64 a, .int .i64 b] w fun e w' => e = .returned (.int .i64 (-1)) ∧ w' = w := by
  go_enter Tryz.func83, Tryz.ntmps83
  go_wp2
  go_ret
  exact ⟨rfl, rfl⟩
theorem compare_gt (a b : Int) (w : World) (h : b < a) : Calls Tryz.prog 83 #[.int .i64 a, .int .i64 b] w fun e w' => e = .returned (.int .i64 1) ∧ w' = w := by
  have h1 : ¬ a < b := by omega
  go_enter Tryz.func83, Tryz.ntmps83
  go_wp2
  go_ret
  exact ⟨rfl, rfl⟩
theorem compare_eq (a b : Int) (w : World) (h : a = b) : Calls Tryz.prog 83 #[.int .i64 a, .int .i64 b] w fun e w' => e = .returned (.int .i64 0) ∧ w' = w := by
  subst h
  go_enter Tryz.func83, Tryz.ntmps83
  go_wp2
  go_ret
  exact ⟨rfl, rfl⟩
theorem compare_int (a b : Int) (w : World) : Calls Tryz.prog 83 #[.int .i64 a, .int .i64 b] w fun e w' => e = .returned (.int .i64 (cmpI a b)) ∧ w' = w := by
  unfold cmpI
  by_cases h1 : a < b
  · rw [if_pos h1]; exact compare_lt a b w h1
  · rw [if_neg h1]
    by_cases h2 : b < a
    · rw [if_pos h2]; exact compare_gt a b w h2
    · rw [if_neg h2]; exact compare_eq a b w (by omega)
end Go.Proofs.YtomcdhmcjndioaaGreatDoor
end
section
namespace Go.Proofs.YtomcdhmcjndioaaGreatDoor
open Go.RowKit
set_option linter.unusedVariables false

def fLo (k : Nat) : Int := ([65, 192, 216, 256, 306, 313, 330, 376, 377, 902, 904, 908, 910, 913, 931, 1024, 1040] : List Int).getD k 0
def fHi (k : Nat) : Int := ([90, 214, 222, 303, 311, 328, 375, 376, 382, 902, 906, 908, 911, 929, 939, 1039, 1071] : List Int).getD k 0
def fSt (k : Nat) : Int := ([1, 1, 1, 2, 2, 2, 2, 1, 2, 1, 1, 1, 1, 1, 1, 1, 1] : List Int).getD k 0
def fMo (k : Nat) : Int := ([32, 32, 32, 1, 1, 1, 1, -121, 1, 38, 37, 64, 63, 32, 32, 80, 32] : List Int).getD k 0
theorem fsorted : ∀ k, k < 17 → fLo k ≤ fHi k ∧ 0 ≤ fLo k ∧ fHi k ≤ 262143 ∧ ∀ j, j < k → fHi j < fLo k := by decide
theorem fmono (j k : Nat) (h : j ≤ k) (hk : k < 17) : fHi j ≤ fHi k := by
  rcases Nat.lt_or_ge j k with h1 | h1
  · have h2 := fsorted k hk
    have := h2.2.2.2 j h1; omega
  · have : j = k := by omega
    subst this; omega
/-- The table at an address of old memory. -/
def fCells (w : World) (B : Nat) (ad : Addr) : Prop := ad.block < B ∧ ∀ k, k < 17 → w.cell? (ad.add (k * 4)) = some (.int .i32 (fLo k)) ∧ w.cell? ⟨(ad.add (k * 4)).block, (ad.add (k * 4)).off + 1, none⟩ = some (.int .i32 (fHi k)) ∧ w.cell? ⟨(ad.add (k * 4)).block, (ad.add (k * 4)).off + 2, none⟩ = some (.int .i32 (fSt k)) ∧ w.cell? ⟨(ad.add (k * 4)).block, (ad.add (k * 4)).off + 3, none⟩ = some (.int .i32 (fMo k))
/-- The variable holds the table. -/
def fSpans (w : World) (B : Nat) : Prop := 3 < B ∧ ∃ ad c, w.cell? ⟨3, 0, none⟩ = some (.slice (some ad) 17 c) ∧ fCells w B ad
theorem fCells.below {w w' : World} {B : Nat} {ad : Addr} (h : fCells w B ad) (hb : Below B w w') : fCells w' B ad := by
  refine ⟨h.1, fun k hk => ?_⟩
  obtain ⟨c0, c1, c2, c3⟩ := h.2 k hk
  have hbl : (ad.add (k * 4)).block < B := by rw [add_block]; exact h.1
  exact ⟨(hb.cell hbl).trans c0, (hb.cell (p := ⟨(ad.add (k * 4)).block, (ad.add (k * 4)).off + 1, none⟩) hbl).trans c1, (hb.cell (p := ⟨(ad.add (k * 4)).block, (ad.add (k * 4)).off + 2, none⟩) hbl).trans c2, (hb.cell (p := ⟨(ad.add (k * 4)).block, (ad.add (k * 4)).off + 3, none⟩) hbl).trans c3⟩
theorem fCells.more {w : World} {B B' : Nat} {ad : Addr} (h : fCells w B ad) (hB : B ≤ B') : fCells w B' ad := ⟨Nat.lt_of_lt_of_le h.1 hB, h.2⟩
theorem fSpans.below {w w' : World} {B : Nat} (h : fSpans w B) (hb : Below B w w') : fSpans w' B := by
  obtain ⟨h0, ad, c, h1, h2⟩ := h
  exact ⟨h0, ad, c, (hb.cell (p := ⟨3, 0, none⟩) h0).trans h1, h2.below hb⟩
theorem fSpans.more {w : World} {B B' : Nat} (h : fSpans w B) (hB : B ≤ B') : fSpans w B' := by
  obtain ⟨h0, ad, c, h1, h2⟩ := h
  exact ⟨Nat.lt_of_lt_of_le h0 hB, ad, c, h1, h2.more hB⟩

theorem fcmp_lt (lo hi st mo r : Int) (w : World) (h : hi < r) : Calls Tryz.prog 105 #[.agg #[.int .i32 lo, .int .i32 hi, .int .i32 st, .int .i32 mo], .int .i32 r] w fun e w' => e = .returned (.int .i64 (-1)) ∧ Below w.heap.size w w' := by
  go_enter Tryz.func105, Tryz.ntmps105
  go_wp2
  go_ret
  exact ⟨rfl, (Below.refl _ _).alloc (Nat.le_refl _) _⟩
theorem fcmp_gt (lo hi st mo r : Int) (w : World) (h : ¬ hi < r) (h2 : r < lo) : Calls Tryz.prog 105 #[.agg #[.int .i32 lo, .int .i32 hi, .int .i32 st, .int .i32 mo], .int .i32 r] w fun e w' => e = .returned (.int .i64 1) ∧ Below w.heap.size w w' := by
  go_enter Tryz.func105, Tryz.ntmps105
  go_wp2
  go_ret
  exact ⟨rfl, (Below.refl _ _).alloc (Nat.le_refl _) _⟩
theorem fcmp_eq (lo hi st mo r : Int) (w : World) (h : ¬ hi < r) (h2 : ¬ r < lo) : Calls Tryz.prog 105 #[.agg #[.int .i32 lo, .int .i32 hi, .int .i32 st, .int .i32 mo], .int .i32 r] w fun e w' => e = .returned (.int .i64 0) ∧ Below w.heap.size w w' := by
  go_enter Tryz.func105, Tryz.ntmps105
  go_wp2
  go_ret
  exact ⟨rfl, (Below.refl _ _).alloc (Nat.le_refl _) _⟩

/-- Where the search ends. -/
def fPost (w : World) (r : Int) (e : Ending) (w' : World) : Prop := ∃ i : Nat, i ≤ 17 ∧ (∀ k, k < i → fHi k < r) ∧ (∀ k, i ≤ k → k < 17 → r ≤ fHi k) ∧ e = .returned (.tuple #[.int .i64 (i : Int), .bool (decide (i < 17 ∧ fLo i ≤ r))]) ∧ Below w.heap.size w w'
def fRel (w : World) (r : Int) (i j : Nat) (wr : World) : Prop := (∀ k, k < i → fHi k < r) ∧ (∀ k, j ≤ k → k < 17 → r ≤ fHi k) ∧ Below w.heap.size w wr
set_option maxRecDepth 100000 in
set_option maxHeartbeats 4000000 in
theorem fsearch (ad : Addr) (c : Nat) (r : Int) (w : World) (h : fCells w w.heap.size ad) : Calls Tryz.prog 104 #[.slice (some ad) 17 c, .int .i32 r, .func (.func 105) #[] #[]] w (fPost w r) := by
  have H := Lib.hid h
  clear h
  go_enter Tryz.func104, Tryz.ntmps104
  go_wp2
  go_loopw [9, 10] (fun a b wr => ∃ i j : Nat, i ≤ j ∧ j ≤ 17 ∧ a = .int .i64 (i : Int) ∧ b = .int .i64 (j : Int) ∧ Hid (fRel w r i j wr)) (fun a b _ => (intOf b).toNat - (intOf a).toNat)
  case atStart => exact ⟨0, 17, by omega, Nat.le_refl _, rfl, rfl, fun k hk => by omega, fun k h1 h2 => by omega, Below.refl _ _⟩
  case round =>
    obtain ⟨i, j, hij, hj, rfl, rfl, HR⟩ := hrel
    have hsz := HR.out.2.2.size
    by_cases hlt : i < j
    · have hi2 : (i : Int) < (j : Int) := by omega
      have hmi : i ≤ (i + j) / 2 := by omega
      have hmj : (i + j) / 2 < j := by omega
      have hmn : (i + j) / 2 < 17 := by omega
      obtain ⟨c0, c1, c2, c3⟩ := ((H.out.below HR.out.2.2).2 ((i + j) / 2) hmn)
      have HSRT := Lib.hid (fsorted ((i + j) / 2) hmn)
      by_cases hlt2 : fHi ((i + j) / 2) < r
      · have HL := Lib.hid hlt2
        clear hlt2
        go_wp2_with fail
        refine (fcmp_lt (fLo ((i + j) / 2)) (fHi ((i + j) / 2)) (fSt ((i + j) / 2)) (fMo ((i + j) / 2)) r _ (by have := HL.out; omega)).mono ?_
        rintro e w3 ⟨rfl, hb3⟩
        have HF := Lib.hid (show fRel w r ((i + j) / 2 + 1) j w3 from ⟨fun k hk => by
          have := fmono k ((i + j) / 2) (by omega) hmn
          have := HL.out
          omega, HR.out.2.1, HR.out.2.2.trans (hb3.mono hsz)⟩)
        clear hb3
        go_wp2
        go_roundw
        case rel => exact ⟨(i + j) / 2 + 1, j, by omega, hj, int_eq (by omega), rfl, HF.out⟩
        case measure => simp [intOf] <;> omega
      · have HL := Lib.hid hlt2
        have HF : Hid (∀ w3, Below wr.heap.size wr w3 → fRel w r i ((i + j) / 2) w3) := fun w3 hb3 => ⟨HR.out.1, fun k h1 h2 => by
          have := fmono ((i + j) / 2) k h1 h2
          have := HL.out
          omega, HR.out.2.2.trans (hb3.mono hsz)⟩
        clear hlt2
        by_cases hgt : r < fLo ((i + j) / 2)
        · have HG := Lib.hid hgt
          clear hgt
          go_wp2_with fail
          refine (fcmp_gt (fLo ((i + j) / 2)) (fHi ((i + j) / 2)) (fSt ((i + j) / 2)) (fMo ((i + j) / 2)) r _ (by have := HL.out; omega) (by have := HG.out; omega)).mono ?_
          rintro e w3 ⟨rfl, hb3⟩
          have HF2 := Lib.hid (HF.out w3 hb3)
          clear hb3
          go_wp2
          go_roundw
          case rel => exact ⟨i, (i + j) / 2, hmi, by omega, rfl, int_eq (by omega), HF2.out⟩
          case measure => simp [intOf] <;> omega
        · have HG := Lib.hid hgt
          clear hgt
          go_wp2_with fail
          refine (fcmp_eq (fLo ((i + j) / 2)) (fHi ((i + j) / 2)) (fSt ((i + j) / 2)) (fMo ((i + j) / 2)) r _ (by have := HL.out; omega) (by have := HG.out; omega)).mono ?_
          rintro e w3 ⟨rfl, hb3⟩
          have HF2 := Lib.hid (HF.out w3 hb3)
          clear hb3
          go_wp2
          go_roundw
          case rel => exact ⟨i, (i + j) / 2, hmi, by omega, rfl, int_eq (by omega), HF2.out⟩
          case measure => simp [intOf] <;> omega
    · obtain rfl : i = j := by omega
      by_cases hin : i < 17
      · have hi2 : (i : Int) < 17 := by omega
        obtain ⟨c0, c1, c2, c3⟩ := ((H.out.below HR.out.2.2).2 i hin)
        have hle := HR.out.2.1 i (Nat.le_refl _) hin
        have HL := Lib.hid (show ¬ fHi i < r by omega)
        clear hle
        by_cases hgt : r < fLo i
        · have HG := Lib.hid hgt
          have HD := Lib.hid (show decide (i < 17 ∧ fLo i ≤ r) = false from decide_eq_false (by omega))
          clear hgt
          go_wp2_with fail
          refine (fcmp_gt (fLo i) (fHi i) (fSt i) (fMo i) r _ (by have := HL.out; omega) (by have := HG.out; omega)).mono ?_
          rintro e w3 ⟨rfl, hb3⟩
          have HF2 := Lib.hid (HR.out.2.2.trans (hb3.mono hsz))
          clear hb3
          go_wp2
          go_ret2
          exact ⟨i, hj, HR.out.1, HR.out.2.1, by rw [HD.out]; rfl, HF2.out⟩
        · have HG := Lib.hid hgt
          have HD := Lib.hid (show decide (i < 17 ∧ fLo i ≤ r) = true from decide_eq_true (by omega))
          clear hgt
          go_wp2_with fail
          refine (fcmp_eq (fLo i) (fHi i) (fSt i) (fMo i) r _ (by have := HL.out; omega) (by have := HG.out; omega)).mono ?_
          rintro e w3 ⟨rfl, hb3⟩
          have HF2 := Lib.hid (HR.out.2.2.trans (hb3.mono hsz))
          clear hb3
          go_wp2
          go_ret2
          exact ⟨i, hj, HR.out.1, HR.out.2.1, by rw [HD.out]; rfl, HF2.out⟩
      · have hi2 : ¬ (i : Int) < 17 := by omega
        have HD := Lib.hid (show decide (i < 17 ∧ fLo i ≤ r) = false from decide_eq_false (by omega))
        go_wp2
        go_ret2
        exact ⟨i, hj, HR.out.1, HR.out.2.1, by rw [HD.out]; rfl, HR.out.2.2⟩
end Go.Proofs.YtomcdhmcjndioaaGreatDoor
end
