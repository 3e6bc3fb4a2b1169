/- Layer 2, plain: the encoding of integers, strings and lists; reading them back. Words for memory: a run of cells that reads as a list, kept by whatever leaves older blocks alone; integers that a slice owns; strings. Layer 10, plain: tokens. Plain: units of UTF-8, decoded (the first part of UtfP, without the tables of folding). Layer 12, plain: parameters of a content type. Layer 9, plain: header fields; what ReplaceAll does to a list of bytes. Layer 14, plain: the parts of a message. -/
import Derived.Lib.Hide
import Derived.Test.YthidbmeaccpjdaaGreatDoorProg
import Derived.ProofKit
import Derived.WalkKit
import Derived.WalkSpells
import Derived.WalkLawsBesides
import Derived.BigQuiet
import Derived.Deep.QuietTactic
import Derived.Deep.DeepCutAuto
import Derived.Deep.RegionWith
import Derived.Laws.OwnMore
import Derived.Deep.AppendLies
import Derived.Deep.Draws
import Derived.Maps.AppendAt
import Derived.OneCell
import Derived.ShutString
import Derived.Lib.DecodeN
import Derived.Lib.RuneBytes
import Derived.Lib.Replace
import Derived.Lib.IndexLaws
import Derived.Lib.CountLaws
import Derived.Lib.SlTrimSet
section
namespace Go.Proofs.YthidbmeaccpjdaaGreatDoor
set_option linter.unusedVariables false
def vnum (n : Nat) : List UInt8 := if h : n < 128 then [UInt8.ofNat n] else UInt8.ofNat (n % 128 + 128) :: vnum (n / 128)
termination_by n
theorem vnum_lt {n : Nat} (h : n < 128) : vnum n = [UInt8.ofNat n] := by rw [vnum]; simp [h]
theorem vnum_ge {n : Nat} (h : 128 ≤ n) : vnum n = UInt8.ofNat (n % 128 + 128) :: vnum (n / 128) := by rw [vnum]; simp [show ¬ n < 128 by omega]
def vint (n : Int) : List UInt8 := if n < 0 then [] else vnum n.toNat
theorem vint_nat (n : Nat) : vint (n : Int) = vnum n := by unfold vint; rw [if_neg (by omega)]; simp
theorem vint_neg {n : Int} (h : n < 0) : vint n = [] := by unfold vint; rw [if_pos h]
theorem vint_pos {n : Int} (h : 0 ≤ n) : vint n = vnum n.toNat := by unfold vint; rw [if_neg (by omega)]
theorem vnum_len : ∀ (k n : Nat), n < 128 ^ k → 1 ≤ k → (vnum n).length ≤ k
 | 0, n, h, hk => by omega
 | k + 1, n, h, _ => by
  by_cases hn : n < 128
  ·rw [vnum_lt hn]; simp
  ·rw [vnum_ge (by omega), List.length_cons]
   have h2 : n / 128 < 128 ^ k := by rw [Nat.pow_succ] at h; omega
   have hk : 1 ≤ k := by
    cases k with
    | zero => simp at h2; omega
    | succ k => omega
   have := vnum_len k (n / 128) h2 hk
   omega
theorem vint_len (n : Int) (h : n ≤ 9223372036854775807) : (vint n).length ≤ 9 := by
 unfold vint
 split
 ·simp
 ·exact vnum_len 9 _ (by have : (128 : Nat) ^ 9 = 9223372036854775808 := rfl; omega) (by omega)
def vtext (s : List UInt8) : List UInt8 := vnum s.length ++ s
def vints (l : List Int) : List UInt8 := vnum l.length ++ l.flatMap vint
theorem vints_len : ∀ l : List Int, (∀ x, x ∈ l → x ≤ 9223372036854775807) → (l.flatMap vint).length ≤ 9 * l.length
 | [], _ => by simp
 | a :: r, h => by
  have h1 := vint_len a (h a (by simp))
  have h2 := vints_len r fun x hx => h x (by simp [hx])
  simp only [List.flatMap_cons, List.length_append, List.length_cons]; omega
def hi : List UInt8 → Nat
 | [] => 0
 | b :: r => if 128 ≤ b.toNat then hi r + 1 else 0
def val : List UInt8 → Nat
 | [] => 0
 | b :: r => b.toNat % 128 + 128 * val r
theorem hi_le : ∀ l : List UInt8, hi l ≤ l.length
 | [] => Nat.le_refl _
 | b :: r => by unfold hi; split; exact Nat.succ_le_succ (hi_le r); exact Nat.zero_le _
theorem hi_ge : ∀ (l : List UInt8) (k : Nat) (hk : k < l.length), k < hi l → 128 ≤ l[k].toNat
 | [], k, hk, _ => by simp at hk
 | b :: r, k, hk, h => by
  unfold hi at h
  split at h
  ·cases k with
   | zero => assumption
   | succ k => exact hi_ge r k (by simpa using hk) (by omega)
  ·omega
theorem hi_at : ∀ (l : List UInt8) (hk : hi l < l.length), l[hi l].toNat < 128
 | [], hk => by simp [hi] at hk
 | b :: r, hk => by
  by_cases hb : 128 ≤ b.toNat
  ·have e : hi (b :: r) = hi r + 1 := by simp [hi, hb]
   have := hi_at r (by rw [e] at hk; simpa using hk)
   simp only [e, List.getElem_cons_succ]; exact this
  ·have e : hi (b :: r) = 0 := by simp [hi, hb]
   simp only [e, List.getElem_cons_zero]; omega
theorem hi_step {l : List UInt8} {k : Nat} (hk : k < l.length) (h : k ≤ hi l) : (128 ≤ l[k].toNat → k + 1 ≤ hi l) ∧ (l[k].toNat < 128 → k = hi l) := by
 constructor
 ·intro hb
  rcases Nat.lt_or_ge k (hi l) with h1 | h1
  ·omega
  ·have e : k = hi l := by omega
   subst e
   have := hi_at l hk; omega
 ·intro hb
  rcases Nat.lt_or_ge k (hi l) with h1 | h1
  ·have := hi_ge l k hk h1; omega
  ·omega
theorem val_append (a b : List UInt8) : val (a ++ b) = val a + 128 ^ a.length * val b := by
 induction a with
 | nil => simp [val]
 | cons x r ih =>
  simp only [List.cons_append, val, ih, List.length_cons, Nat.pow_succ, Nat.mul_add]
  rw [Nat.mul_comm (128 ^ r.length) 128, Nat.mul_assoc]; omega
theorem val_lt (l : List UInt8) : val l < 128 ^ l.length := by
 induction l with
 | nil => simp [val]
 | cons x r ih => simp only [val, List.length_cons, Nat.pow_succ]; omega
theorem take_snoc' {α : Type} {l : List α} {k : Nat} (hk : k < l.length) : l.take (k + 1) = l.take k ++ [l[k]] := List.take_succ_eq_append_getElem hk
theorem val_take {l : List UInt8} {k : Nat} (hk : k < l.length) : val (l.take (k + 1)) = val (l.take k) + 128 ^ k * (l[k].toNat % 128) := by
 rw [take_snoc' hk, val_append, List.length_take, Nat.min_eq_left (by omega)]
 simp [val]
theorem drop_cons' {α : Type} {l : List α} {k : Nat} (hk : k < l.length) : l.drop k = l[k] :: l.drop (k + 1) := List.drop_eq_getElem_cons hk
def rnum (l : List UInt8) : Option (Nat × List UInt8) :=
 if h : hi l < l.length then (if hi l ≤ 8 ∧ (hi l = 0 ∨ l[hi l].toNat ≠ 0) then some (val (l.take (hi l + 1)), l.drop (hi l + 1)) else none) else none
theorem rnum_some {l : List UInt8} (h : hi l < l.length) (h8 : hi l ≤ 8) (h0 : hi l = 0 ∨ l[hi l].toNat ≠ 0) : rnum l = some (val (l.take (hi l + 1)), l.drop (hi l + 1)) := by
 unfold rnum; rw [dif_pos h, if_pos ⟨h8, h0⟩]
theorem rnum_short {l : List UInt8} (h : l.length ≤ hi l) : rnum l = none := by unfold rnum; rw [dif_neg (by omega)]
theorem rnum_long {l : List UInt8} (h : 8 < hi l) : rnum l = none := by
 unfold rnum; split
 ·rw [if_neg (by omega)]
 ·rfl
theorem rnum_zero {l : List UInt8} (h : hi l < l.length) (h1 : hi l ≠ 0) (h0 : l[hi l].toNat = 0) : rnum l = none := by
 unfold rnum; rw [dif_pos h, if_neg (by omega)]
theorem rnum_bound {l t : List UInt8} {n : Nat} (h : rnum l = some (n, t)) : n < 9223372036854775808 ∧ t.length < l.length := by
 unfold rnum at h
 split at h
 ·rename_i h1
  split at h
  ·rename_i h2
   injection h with h
   injection h with e1 e2
   subst e1; subst e2
   refine ⟨?_, by rw [List.length_drop]; omega⟩
   have h3 := val_lt (l.take (hi l + 1))
   rw [List.length_take, Nat.min_eq_left (by omega)] at h3
   refine Nat.lt_of_lt_of_le h3 ?_
   have : (128 : Nat) ^ (hi l + 1) ≤ 128 ^ 9 := Nat.pow_le_pow_right (by omega) (by omega)
   have e : (128 : Nat) ^ 9 = 9223372036854775808 := rfl
   omega
  ·cases h
 ·cases h
structure Rd where
 s : List UInt8
 bad : Bool
def Rd.fails : Rd := ⟨[], true⟩
def Rd.num (r : Rd) : Nat × Rd := match rnum r.s with
 | some (n, t) => (n, ⟨t, r.bad⟩)
 | none => (0, Rd.fails)
def Rd.take (r : Rd) (n : Int) : List UInt8 × Rd := if n < 0 ∨ (r.s.length : Int) < n ∨ r.bad = true then ([], Rd.fails) else (r.s.take n.toNat, ⟨r.s.drop n.toNat, r.bad⟩)
def Rd.text (r : Rd) : List UInt8 × Rd := r.num.2.take r.num.1
def Rd.loop : Nat → Rd → List Int → List Int × Rd
 | 0, r, out => (out, r)
 | k + 1, r, out => if r.num.2.bad = true then ([], r.num.2) else Rd.loop k r.num.2 (out ++ [(r.num.1 : Int)])
def Rd.nums (r : Rd) : List Int × Rd := if r.num.2.s.length < r.num.1 then ([], Rd.fails) else if r.num.2.bad = true then ([], r.num.2) else Rd.loop r.num.1 r.num.2 []
def Rd.done (r : Rd) : Bool := !r.bad && r.s.isEmpty
theorem Rd.num_bound (r : Rd) : r.num.1 < 9223372036854775808 ∧ r.num.2.s.length ≤ r.s.length := by
 unfold Rd.num
 cases h : rnum r.s with
 | none => exact ⟨by show 0 < _; omega, Nat.zero_le _⟩
 | some p => have := rnum_bound (n := p.1) (t := p.2) h; exact ⟨this.1, by show p.2.length ≤ _; omega⟩
end Go.Proofs.YthidbmeaccpjdaaGreatDoor
end
section
namespace Go.Proofs.YthidbmeaccpjdaaGreatDoor
open Go.RowKit
set_option linter.unusedVariables false
theorem add_block (a : Addr) (n : Nat) : (a.add n).block = a.block := by unfold Addr.add; split <;> rfl
theorem add_add' (a : Addr) (i j : Nat) : (a.add i).add j = a.add (i + j) := by
 unfold Addr.add
 by_cases hi : i = 0 <;> by_cases hj : j = 0 <;> simp [hi, hj, Nat.add_assoc]
def Run (w : World) (B : Nat) (A : Option Addr) (xs : List Value) : Prop :=
 xs = [] ∨ ∃ ad, A = some ad ∧ ad.block < B ∧ ∀ j u, xs[j]? = some u → w.cell? (ad.add j) = some u
section
variable {w w' : World} {B B' : Nat} {A : Option Addr} {xs : List Value}
theorem Run.nil_ : Run w B A [] := .inl rfl
theorem Run.at_ {k : Nat} (h : Run w B A xs) (hk : k < xs.length) : ∃ ad u, A = some ad ∧ ad.block < B ∧ xs[k]? = some u ∧ w.cell? (ad.add k) = some u := by
 rcases h with rfl | ⟨ad, e, hb, hc⟩
 ·simp at hk
 ·exact ⟨ad, xs[k], e, hb, List.getElem?_eq_getElem hk, hc k _ (List.getElem?_eq_getElem hk)⟩
theorem Run.keep (h : Run w B A xs) (hk : ∀ p : Addr, p.block < B → w'.cell? p = w.cell? p) : Run w' B A xs := by
 rcases h with h | ⟨ad, e, hb, hc⟩
 ·exact .inl h
 ·exact .inr ⟨ad, e, hb, fun j u hu => (hk _ (by rw [add_block]; exact hb)).trans (hc j u hu)⟩
theorem Run.more (h : Run w B A xs) (hB : B ≤ B') : Run w B' A xs := by
 rcases h with h | ⟨ad, e, hb, hc⟩
 ·exact .inl h
 ·exact .inr ⟨ad, e, by omega, hc⟩
theorem Run.below (h : Run w B A xs) (hb : Below B w w') : Run w' B A xs := h.keep fun _ hp => hb.cell hp
theorem Run.drew (h : Run w B A xs) : Run w.drew B A xs := h
theorem Run.drewN (h : Run w B A xs) (k : Nat) : Run (w.drewN k) B A xs := h
theorem Run.cut (h : Run w B A xs) {k cap : Nat} (hc : xs.length ≤ cap) :
  Run w B (if cap = k then A else A.map (·.add k)) (xs.drop k) := by
 rcases h with rfl | ⟨ad, rfl, hb, hcell⟩
 ·exact .inl (by simp)
 ·by_cases hk : xs.length ≤ k
  ·exact .inl (by simp [hk])
  ·rw [if_neg (by omega)]
   refine .inr ⟨ad.add k, rfl, by rw [add_block]; exact hb, fun j u hu => ?_⟩
   rw [add_add']
   exact hcell _ u (by rw [← hu, List.getElem?_drop])
theorem Run.take (h : Run w B A xs) (k : Nat) : Run w B A (xs.take k) := by
 rcases h with rfl | ⟨ad, rfl, hb, hcell⟩
 ·exact .inl (by simp)
 ·refine .inr ⟨ad, rfl, hb, fun j u hu => hcell j u ?_⟩
  rw [List.getElem?_take] at hu
  split at hu
  ·exact hu
  ·cases hu
theorem Run.of_own {base size n : Nat} {e : TypeId} {c : Nat} (h : w.ownsRow base e size (.slice A n c) n xs) : Run w w.heap.size A xs := by
 by_cases hn : n = 0
 ·have := h.1; rw [hn] at this; exact .inl (List.eq_nil_of_length_eq_zero (by simpa using this))
 ·obtain ⟨g, cap, hv, _, hlt⟩ := h.form (by omega)
  have hA : A = some ⟨g, 0, none⟩ := by injection hv
  subst hA
  exact .inr ⟨_, rfl, hlt, h.cells (g := g) rfl⟩
end
def iv (l : List Int) : List Value := l.map (Value.int .i64)
def gi (l : List Int) (k : Nat) : Int := l.getD k 0
theorem gi_get {l : List Int} {k : Nat} (h : k < l.length) : gi l k = l[k] := by simp [gi, h]
def I64s (l : List Int) : Prop := ∀ x ∈ l, -9223372036854775808 ≤ x ∧ x ≤ 9223372036854775807
def Ints (w : World) (B : Nat) (A : Option Addr) (n : Nat) (l : List Int) : Prop := n = l.length ∧ I64s l ∧ Run w B A (iv l)
section
variable {w w' : World} {B B' n : Nat} {A : Option Addr} {l : List Int}
theorem Ints.at_ {k : Nat} (h : Ints w B A n l) (hk : k < n) : ∃ ad, A = some ad ∧ ad.block < B ∧ w.cell? (ad.add k) = some (.int .i64 (gi l k)) := by
 obtain ⟨rfl, _, hr⟩ := h
 obtain ⟨ad, u, e, hb, hx, hc⟩ := hr.at_ (k := k) (by simpa [iv] using hk)
 refine ⟨ad, e, hb, ?_⟩
 rw [hc, ← hx]
 simp [iv, hk, gi]
theorem Ints.len (h : Ints w B A n l) : l.length = n := h.1.symm
theorem Ints.bounds (h : Ints w B A n l) (k : Nat) : -9223372036854775808 ≤ gi l k ∧ gi l k ≤ 9223372036854775807 := by
 unfold gi
 by_cases hk : k < l.length
 ·have := h.2.1 (l[k]) (List.getElem_mem hk)
  simpa [List.getD_eq_getElem?_getD, List.getElem?_eq_getElem hk] using this
 ·rw [List.getD_eq_getElem?_getD, List.getElem?_eq_none (by omega)]; simp
theorem Ints.below (h : Ints w B A n l) (hb : Below B w w') : Ints w' B A n l := ⟨h.1, h.2.1, h.2.2.below hb⟩
theorem Ints.more (h : Ints w B A n l) (hB : B ≤ B') : Ints w B' A n l := ⟨h.1, h.2.1, h.2.2.more hB⟩
theorem Ints.drewN (h : Ints w B A n l) (k : Nat) : Ints (w.drewN k) B A n l := h
theorem Ints.nil_ : Ints w B A 0 [] := ⟨rfl, (fun x hx => by cases hx), .inl rfl⟩
end
theorem heap_lt {w : World} {b : Nat} {o : Obj} (h : w.heap[b]? = some o) : b < w.heap.size := (Array.getElem?_eq_some_iff.1 h).1
theorem ownsRow_block {w w' : World} {base : Nat} {e : TypeId} {size : Nat} {v : Value} {n : Nat} {xs : List Value} (h : w.ownsRow base e size v n xs) (hb : ∀ b, v.ownBlock = some b → w'.heap[b]? = w.heap[b]?) : w'.ownsRow base e size v n xs := by
 refine ⟨h.1, ?_⟩
 rcases h.2 with hn | ⟨g, cap, cur, rfl, hbb, hg, rest⟩
 ·exact .inl hn
 ·exact .inr ⟨g, cap, cur, rfl, hbb, (hb g rfl).trans hg, rest⟩
theorem int_info : (Tryz.prog.info? 3).map (fun i => (i.zero, i.size, i.bytes)) = some (some (.int .i64 0), 1, 8) := by kernel_rfl
theorem I64s.snoc {l : List Int} (h : I64s l) {x : Int} (hx : -9223372036854775808 ≤ x ∧ x ≤ 9223372036854775807) : I64s (l ++ [x]) := by
 intro y hy
 rcases List.mem_append.1 hy with h1 | h1
 ·exact h y h1
 ·rw [List.mem_singleton] at h1; subst h1; exact hx
theorem iv_snoc (l : List Int) (x : Int) : iv (l ++ [x]) = iv l ++ [.int .i64 x] := by simp [iv]
def OwnInts (w : World) (B : Nat) (v : Value) (acc : List Int) : Prop := w.ownsRow B 3 1 v acc.length (iv acc) ∧ I64s acc
theorem OwnInts.nil_ (w : World) (B : Nat) : OwnInts w B (.slice none 0 0) [] := ⟨World.ownsRow_nil _ _ _ _, fun x hx => by cases hx⟩
theorem OwnInts.ints {w : World} {B : Nat} {v : Value} {acc : List Int} (h : OwnInts w B v acc) : ∃ A c, v = .slice A acc.length c ∧ acc.length ≤ c ∧ c ≤ maxLen ∧ Ints w w.heap.size A acc.length acc := by
 rcases h.1.2 with ⟨rfl, hn⟩ | ⟨g, cap, cur, rfl, hb, hg, h1, h2, h3, h4⟩
 ·rw [hn]
  have : acc = [] := List.eq_nil_of_length_eq_zero hn
  subst this
  exact ⟨none, 0, rfl, Nat.le_refl _, by simp, Ints.nil_⟩
 ·exact ⟨_, cap, rfl, h1, h2, rfl, h.2, Run.of_own h.1⟩
theorem OwnInts.alloc {w : World} {B : Nat} {v : Value} {acc : List Int} (h : OwnInts w B v acc) (o : Obj) : OwnInts (w.alloc o) B v acc := ⟨h.1.alloc o, h.2⟩
theorem OwnInts.base {w : World} {B : Nat} {v : Value} {acc : List Int} (h : OwnInts w B v acc) : ∀ k, v.ownBlock = some k → B ≤ k := fun k hk => (h.1.lt k hk).1
theorem OwnInts.block {w w' : World} {B : Nat} {v : Value} {acc : List Int} (h : OwnInts w B v acc) (hb : ∀ b, v.ownBlock = some b → w'.heap[b]? = w.heap[b]?) : OwnInts w' B v acc := ⟨ownsRow_block h.1 hb, h.2⟩
theorem OwnInts.more {w : World} {B B' : Nat} {v : Value} {acc : List Int} (h : OwnInts w B v acc) (hB : B' ≤ B) : OwnInts w B' v acc := by
 obtain ⟨⟨h0, h1⟩, h2⟩ := h
 refine ⟨⟨h0, ?_⟩, h2⟩
 rcases h1 with h1 | ⟨g, cap, cur, e, hb, r⟩
 ·exact .inl h1
 ·exact .inr ⟨g, cap, cur, e, by omega, r⟩
theorem wpList_push {ops : Array Oper} {rest : List Oper} {o : Oper} {a : Act} {W : World} {Q : Exit → Act → World → Prop} {B : Nat} {y : Int} {v : Value} {acc : List Int} (hown : OwnInts W B v acc) (hB : B ≤ W.heap.size)
  (hy : -9223372036854775808 ≤ y ∧ y ≤ 9223372036854775807) (hlen : acc.length < 1099511627776) (hgd : o.guard = none) (s x : Operand) (t : TypeId) (c : Nat)
  (ho : o.op = .call { callee := .builtin .append, args := #[s, x], argTypes := #[t, t] }) (ht : Tryz.prog.underlying t = some (.slice 3))
  (hs : a.eval s = v) (hx : a.eval x = .slice (some ⟨W.heap.size, 0, none⟩) 1 c)
  (h : ∀ v' w', OwnInts w' B v' (acc ++ [y]) → W.grownBy w' v.ownBlock → (v'.ownBlock = v.ownBlock ∨ ∃ k, v'.ownBlock = some k ∧ W.heap.size ≤ k) → wpList Tryz.prog ops Q rest (a.put o.dst v') w') :
  wpList Tryz.prog ops Q (o :: rest) a (W.alloc (.cells #[.int .i64 y] 3)) := by
 obtain ⟨i0, hi, hz0, hz1, hz2⟩ := info_parts int_info
 refine wpList_append_own_at _ hgd s x t ho B 3 i0 _ 1 8 ht hi hz0 hz1 hz2 rfl (by omega) v acc.length (iv acc) hs (hown.alloc _).1 ⟨W.heap.size, 0, none⟩ 1 c [.int .i64 y] hx rfl (cell_one_new _ _ _) ?_ (by simp only [maxLen]; omega) (by omega) (by simp; omega) ?_
 ·intro u hu; simp at hu; subst hu; rfl
 ·intro v' w' h1 h2 _ h4
  refine h v' w' ⟨?_, hown.2.snoc hy⟩ ?_ ?_
  ·rw [iv_snoc]; simpa using h1
  ·have h5 := World.grownBy_alloc W (.cells #[.int .i64 y] 3) v.ownBlock
   exact ⟨h2.os.trans h5.os, h2.tape.trans h5.tape, h2.output.trans h5.output, Nat.le_trans h5.size h2.size, fun k hk hne => (h2.block k (by simp; omega) hne).trans (h5.block k hk hne)⟩
  ·rcases h4 with h4 | h4
   ·exact .inl h4
   ·exact .inr ⟨_, h4, by simp⟩
structure Off (F : Nat → Prop) (w w' : World) : Prop where
 os : w'.os = w.os
 tape : w'.tape = w.tape
 output : w'.output = w.output
 size : w.heap.size ≤ w'.heap.size
 block : ∀ k, k < w.heap.size → ¬ F k → w'.heap[k]? = w.heap[k]?
namespace Off
variable {F G : Nat → Prop} {a b c w w' : World}
theorem refl (F : Nat → Prop) (w : World) : Off F w w := ⟨rfl, rfl, rfl, Nat.le_refl _, fun _ _ _ => rfl⟩
theorem trans (h : Off F a b) (k : Off F b c) : Off F a c :=
 ⟨k.os.trans h.os, k.tape.trans h.tape, k.output.trans h.output, Nat.le_trans h.size k.size, fun i hi hF => (k.block i (Nat.lt_of_lt_of_le hi h.size) hF).trans (h.block i hi hF)⟩
theorem mono (h : Off F a b) (hF : ∀ k, k < a.heap.size → F k → G k) : Off G a b := ⟨h.os, h.tape, h.output, h.size, fun i hi hn => h.block i hi fun hf => hn (hF i hi hf)⟩
theorem andThen (h : Off F a b) (k : Off G b c) (hG : ∀ i, i < a.heap.size → G i → F i) : Off F a c :=
 ⟨k.os.trans h.os, k.tape.trans h.tape, k.output.trans h.output, Nat.le_trans h.size k.size, fun i hi hF => (k.block i (Nat.lt_of_lt_of_le hi h.size) fun hg => hF (hG i hi hg)).trans (h.block i hi hF)⟩
theorem alloc (h : Off F a b) (o : Obj) : Off F a (b.alloc o) :=
 h.andThen (G := fun _ => False) ⟨rfl, rfl, rfl, by simp, fun k hk _ => heap_alloc_old b o hk⟩ fun _ _ h => h.elim
theorem setCell (h : Off F a b) {p : Addr} (hp : F p.block ∨ a.heap.size ≤ p.block) (u : Value) : Off F a (b.setCell p u) :=
 h.andThen (G := fun k => k = p.block) ⟨rfl, rfl, rfl, by simp [World.setCell], fun k hk hn => heap_setCell_other b p k u hn⟩ fun i hi e => by subst e; rcases hp with h | h; exact h; omega
theorem drew (h : Off F a b) : Off F a b.drew := ⟨h.os, h.tape, h.output, h.size, h.block⟩
theorem drewN (h : Off F a b) (n : Nat) : Off F a (b.drewN n) := ⟨h.os, h.tape, h.output, h.size, h.block⟩
theorem grown (h : Off F a b) {row : Option Nat} (hg : b.grownBy c row) (hr : ∀ k, row = some k → F k ∨ a.heap.size ≤ k) : Off F a c :=
 h.andThen (G := fun k => row = some k) ⟨hg.os, hg.tape, hg.output, hg.size, fun k hk hn => hg.block k hk fun e => hn e.symm⟩ fun i hi e => by rcases hr i e with h | h; exact h; omega
theorem below {B : Nat} (h : Off F a b) (hB : B ≤ a.heap.size) (hF : ∀ k, F k → B ≤ k) : Below B a b :=
 ⟨h.os, h.tape, h.output, h.size, fun k hk => h.block k (by omega) fun hf => by have := hF k hf; omega⟩
theorem of_below {B : Nat} (h : Below B a b) (hB : ∀ k, k < a.heap.size → B ≤ k → F k) : Off F a b :=
 ⟨h.os, h.tape, h.output, h.size, fun k hk hn => h.block k (by rcases Nat.lt_or_ge k B with h | h; exact h; exact absurd (hB k hk h) hn)⟩
end Off
def ba (l : List UInt8) : ByteArray := ⟨l.toArray⟩
theorem ba_list (l : List UInt8) : (ba l).data.toList = l := rfl
theorem ba_eq (s : ByteArray) : ba s.data.toList = s := rfl
theorem ba_size (l : List UInt8) : (ba l).size = l.length := by unfold ba; simp [ByteArray.size]
theorem ba_toList (l : List UInt8) : (ba l).toList = l := by rw [ByteArray.toList_eq]; rfl
theorem ba_inj {a b : List UInt8} : ba a = ba b ↔ a = b := ⟨fun h => by rw [← ba_list a, h, ba_list], fun h => by rw [h]⟩
theorem ba_get (l : List UInt8) (k : Nat) (h : k < (ba l).size) : (ba l)[k] = l[k]'(by rw [← ba_size]; exact h) := rfl
theorem ba_drop (l : List UInt8) (k : Nat) : (ba l).extract k (ba l).size = ba (l.drop k) := by
 rw [ba_size]; unfold ba; apply ByteArray.ext; simp
 exact List.take_of_length_le (by simp)
theorem ba_cut (l : List UInt8) (i j : Nat) : (ba l).extract i j = ba ((l.take j).drop i) := by
 unfold ba; apply ByteArray.ext; simp [List.extract_eq_take_drop, List.drop_take]
theorem ba_append (a b : List UInt8) : ba a ++ ba b = ba (a ++ b) := by unfold ba; apply ByteArray.ext; simp
end Go.Proofs.YthidbmeaccpjdaaGreatDoor
end
section
namespace Go.Proofs.YthidbmeaccpjdaaGreatDoor
set_option linter.unusedVariables false
structure Tok where
 kind : Int
 text : List UInt8
deriving DecidableEq
def blankB (c : UInt8) : Bool := c == 9 || c == 10 || c == 13 || c == 32
def specials : List UInt8 := [40, 41, 60, 62, 91, 93, 58, 59, 64, 92, 44, 46, 34]
def atomB (c : UInt8) : Bool := decide (32 < c) && c != 127 && !specials.contains c
def closeP (close : UInt8) : Nat → List UInt8 → Option Nat
 | _, [] => none
 | d, [c] => if c = 92 then none else if c = close ∧ d = 1 then some 1 else none
 | d, c :: x :: r =>
  if c = 92 then (closeP close d r).map (· + 2)
  else if c = close then (if d = 1 then some 1 else (closeP close (d - 1) (x :: r)).map (· + 1))
  else if c = 40 ∧ close = 41 then (closeP close (d + 1) (x :: r)).map (· + 1)
  else (closeP close d (x :: r)).map (· + 1)
def opens (c : UInt8) : Option (Int × UInt8) := if c = 40 then some (3, 41) else if c = 34 then some (2, 34) else if c = 91 then some (5, 93) else none
def frontP : List UInt8 → Int × Nat
 | [] => (7, 0)
 | c :: r =>
  if blankB c = true then (6, ((c :: r).takeWhile blankB).length)
  else match opens c with
   | some (k, z) => (match closeP z 1 r with
    | some n => (k, n + 1)
    | none => (7, r.length + 1))
   | none => if specials.contains c = true then (4, 1) else if atomB c = true then (1, ((c :: r).takeWhile atomB).length) else (7, 1)
theorem closeP_le (close : UInt8) : ∀ (d : Nat) (l : List UInt8) (n : Nat), closeP close d l = some n → 0 < n ∧ n ≤ l.length
 | d, [], n, h => by unfold closeP at h; cases h
 | d, [c], n, h => by
  unfold closeP at h
  split at h
  ·cases h
  ·split at h
   ·injection h with h; subst h; simp
   ·cases h
 | d, c :: x :: r, n, h => by
  unfold closeP at h
  split at h
  ·obtain ⟨m, hm, rfl⟩ := Option.map_eq_some_iff.1 h
   have := closeP_le close d r m hm
   simp only [List.length_cons]; omega
  ·split at h
   ·split at h
    ·injection h with h; subst h; simp
    ·obtain ⟨m, hm, rfl⟩ := Option.map_eq_some_iff.1 h
     have := closeP_le close (d - 1) (x :: r) m hm
     simp only [List.length_cons] at this ⊢; omega
   ·split at h
    ·obtain ⟨m, hm, rfl⟩ := Option.map_eq_some_iff.1 h
     have := closeP_le close (d + 1) (x :: r) m hm
     simp only [List.length_cons] at this ⊢; omega
    ·obtain ⟨m, hm, rfl⟩ := Option.map_eq_some_iff.1 h
     have := closeP_le close d (x :: r) m hm
     simp only [List.length_cons] at this ⊢; omega
theorem frontP_cons (c : UInt8) (r : List UInt8) : frontP (c :: r) = if blankB c = true then (6, ((c :: r).takeWhile blankB).length)
  else match opens c with
   | some (k, z) => (match closeP z 1 r with
    | some n => (k, n + 1)
    | none => (7, r.length + 1))
   | none => if specials.contains c = true then (4, 1) else if atomB c = true then (1, ((c :: r).takeWhile atomB).length) else (7, 1) := rfl
theorem frontP_len {l : List UInt8} (h : l ≠ []) : 0 < (frontP l).2 ∧ (frontP l).2 ≤ l.length := by
 cases l with
 | nil => exact absurd rfl h
 | cons c r =>
  rw [frontP_cons]
  split
  ·rename_i hb
   refine ⟨?_, (List.takeWhile_prefix _).length_le⟩
   rw [List.takeWhile_cons, if_pos hb]; simp
  ·split
   ·split
    ·rename_i n hn
     have := closeP_le _ _ _ _ hn
     simp only [List.length_cons]; omega
    ·simp
   ·split
    ·simp
    ·split
     ·rename_i ha
      refine ⟨?_, (List.takeWhile_prefix _).length_le⟩
      rw [List.takeWhile_cons, if_pos ha]; simp
     ·simp
def scanF : Nat → List UInt8 → List Tok
 | 0, _ => []
 | f + 1, l => if l = [] then [] else ⟨(frontP l).1, l.take (frontP l).2⟩ :: scanF f (l.drop (frontP l).2)
def scanP (l : List UInt8) : List Tok := scanF l.length l
theorem scanF_more : ∀ (f g : Nat) (l : List UInt8), l.length ≤ f → l.length ≤ g → scanF f l = scanF g l
 | 0, 0, l, _, _ => rfl
 | 0, g + 1, l, h, _ => by
  have : l = [] := List.eq_nil_of_length_eq_zero (by omega)
  unfold scanF; rw [if_pos this]
 | f + 1, 0, l, _, h => by
  have : l = [] := List.eq_nil_of_length_eq_zero (by omega)
  conv => lhs; unfold scanF
  rw [if_pos this]; rfl
 | f + 1, g + 1, l, hf, hg => by
  unfold scanF
  by_cases e : l = []
  ·rw [if_pos e, if_pos e]
  ·rw [if_neg e, if_neg e]
   have := (frontP_len e).1
   rw [scanF_more f g (l.drop (frontP l).2) (by rw [List.length_drop]; omega) (by rw [List.length_drop]; omega)]
theorem scanP_cons {l : List UInt8} (h : l ≠ []) : scanP l = ⟨(frontP l).1, l.take (frontP l).2⟩ :: scanP (l.drop (frontP l).2) := by
 have h1 := frontP_len h
 unfold scanP
 cases e : l.length with
 | zero => exact absurd (List.eq_nil_of_length_eq_zero e) h
 | succ n =>
  conv => lhs; unfold scanF
  rw [if_neg h, scanF_more n (l.drop (frontP l).2).length _ (by rw [List.length_drop]; omega) (Nat.le_refl _)]
theorem scanP_nil : scanP [] = [] := rfl
def keepB (t : Tok) : Bool := decide (t.kind ≠ 6) && decide (t.kind ≠ 3)
def bareP (l : List Tok) : List Tok := l.filter keepB
def joinP (l : List Tok) : List UInt8 := l.flatMap (·.text)
def unescP : List UInt8 → List UInt8
 | [] => []
 | [c] => if c = 92 then [] else if c = 10 ∨ c = 13 then [] else [c]
 | c :: x :: r => if c = 92 then x :: unescP r else if c = 10 ∨ c = 13 then unescP (x :: r) else c :: unescP (x :: r)
def meanP (t : Tok) : List UInt8 := if (t.kind ≠ 2 ∧ t.kind ≠ 3) ∨ t.text.length < 2 then t.text else unescP ((t.text.drop 1).take (t.text.length - 2))
def semiB (t : Tok) : Bool := decide (t.kind = 4) && decide (t.text = [59])
def rowsP : List Tok → List (List Tok)
 | [] => [[]]
 | t :: r => if semiB t = true then [] :: rowsP r else match rowsP r with
  | [] => [[t]]
  | a :: b => (t :: a) :: b
theorem rowsP_ne : ∀ l, rowsP l ≠ []
 | [] => by simp [rowsP]
 | t :: r => by
  unfold rowsP
  split
  ·simp
  ·split <;> simp
end Go.Proofs.YthidbmeaccpjdaaGreatDoor
end
section
namespace Go.Proofs.YthidbmeaccpjdaaGreatDoor
set_option linter.unusedVariables false
def bt (l : List UInt8) (i : Nat) : Nat := (l.getD i 0).toNat
theorem bt_lt (l : List UInt8) (i : Nat) : bt l i < 256 := (l.getD i 0).toNat_lt
def uN (l : List UInt8) : Nat × Nat := Lib.decodeN l.length (bt l 0) (bt l 1) (bt l 2) (bt l 3)
theorem get_ba (l : List UInt8) (i : Nat) : (ba l).get! i = l.getD i 0 := by
 unfold ba ByteArray.get!
 simp only [getElem!_def]
 simp
 rfl
theorem uN_at (l : List UInt8) (pos : Nat) : Utf8.decode (ba l) pos = uN (l.drop pos) := by
 rw [Lib.decode_at, ba_size]
 unfold uN bt
 rw [get_ba, get_ba, get_ba, get_ba, List.length_drop]
 have h : ∀ i, (l.drop pos).getD i 0 = l.getD (pos + i) 0 := fun i => by simp [List.getD_eq_getElem?_getD, List.getElem?_drop]
 rw [h, h, h, h]
 rfl
set_option maxHeartbeats 4000000 in
theorem uN_cases (l : List UInt8) (h : l ≠ []) :
  ((uN l).2 = 1 ∧ (bt l 0 < 128 ∧ (uN l).1 = bt l 0 ∨ 128 ≤ bt l 0 ∧ (uN l).1 = 65533)) ∨
  ((uN l).2 = 2 ∧ 2 ≤ l.length ∧ bt l 0 / 32 = 6 ∧ bt l 1 / 64 = 2 ∧ (uN l).1 = bt l 0 % 32 * 64 + bt l 1 % 64 ∧ 128 ≤ (uN l).1) ∨
  ((uN l).2 = 3 ∧ 3 ≤ l.length ∧ bt l 0 / 16 = 14 ∧ bt l 1 / 64 = 2 ∧ bt l 2 / 64 = 2 ∧ (uN l).1 = bt l 0 % 16 * 4096 + bt l 1 % 64 * 64 + bt l 2 % 64 ∧ 2048 ≤ (uN l).1 ∧ ((uN l).1 < 55296 ∨ 57344 ≤ (uN l).1)) ∨
  ((uN l).2 = 4 ∧ 4 ≤ l.length ∧ bt l 0 / 8 = 30 ∧ bt l 1 / 64 = 2 ∧ bt l 2 / 64 = 2 ∧ bt l 3 / 64 = 2 ∧ (uN l).1 = bt l 0 % 8 * 262144 + bt l 1 % 64 * 4096 + bt l 2 % 64 * 64 + bt l 3 % 64 ∧ 65536 ≤ (uN l).1 ∧ (uN l).1 ≤ 1114111) := by
 unfold uN Lib.decodeN
 have b0 := bt_lt l 0
 generalize bt l 0 = x0 at *
 generalize bt l 1 = x1 at *
 generalize bt l 2 = x2 at *
 generalize bt l 3 = x3 at *
 generalize l.length = n at *
 repeat' split
 ·exact .inl ⟨rfl, .inl ⟨by assumption, rfl⟩⟩
 ·exact .inr (.inl ⟨rfl, by omega, by omega, by omega, rfl, by omega⟩)
 ·exact .inl ⟨rfl, .inr ⟨by omega, rfl⟩⟩
 ·exact .inr (.inr (.inl ⟨rfl, by omega, by omega, by omega, by omega, rfl, by omega, by omega⟩))
 ·exact .inl ⟨rfl, .inr ⟨by omega, rfl⟩⟩
 ·exact .inr (.inr (.inr ⟨rfl, by omega, by omega, by omega, by omega, by omega, rfl, by omega, by omega⟩))
 ·exact .inl ⟨rfl, .inr ⟨by omega, rfl⟩⟩
 ·exact .inl ⟨rfl, .inr ⟨by omega, rfl⟩⟩
theorem uN_pos (l : List UInt8) (h : l ≠ []) : 1 ≤ (uN l).2 ∧ (uN l).2 ≤ l.length ∧ (uN l).2 ≤ 4 ∧ (uN l).1 ≤ 1114111 := by
 have hl : 1 ≤ l.length := List.length_pos_iff.2 h
 have := bt_lt l 0; have := bt_lt l 1; have := bt_lt l 2
 rcases uN_cases l h with h1 | h1 | h1 | h1 <;> omega
end Go.Proofs.YthidbmeaccpjdaaGreatDoor
end
section
namespace Go.Proofs.YthidbmeaccpjdaaGreatDoor
set_option linter.unusedVariables false
def smallB (c : UInt8) : UInt8 := if 65 ≤ c ∧ c ≤ 90 then c + 32 else c
def smallP (l : List UInt8) : List UInt8 := l.map smallB
theorem smallP_len (l : List UInt8) : (smallP l).length = l.length := List.length_map _
def letterB (c : UInt8) : Bool := decide (97 ≤ c ∧ c ≤ 122) || decide (65 ≤ c ∧ c ≤ 90) || decide (48 ≤ c ∧ c ≤ 57)
def wordBytes : List UInt8 := [33, 35, 36, 38, 94, 95, 46, 43, 45]
def wordB (c : UInt8) : Bool := letterB c || wordBytes.contains c
def isWord (l : List UInt8) : Bool := l.all wordB && !l.isEmpty
def cutP (c : UInt8) : List UInt8 → Option (List UInt8 × List UInt8)
 | [] => none
 | x :: r => if x = c then some ([], r) else (cutP c r).map fun q => (x :: q.1, q.2)
theorem cutP_some {c : UInt8} : ∀ {l a b : List UInt8}, cutP c l = some (a, b) → l = a ++ c :: b ∧ c ∉ a
 | [], a, b, h => by cases h
 | x :: r, a, b, h => by
  unfold cutP at h
  split at h
  ·rename_i e
   injection h with h
   injection h with h1 h2
   subst h1; subst h2; subst e
   exact ⟨rfl, by simp⟩
  ·rename_i e
   obtain ⟨q, hq, h2⟩ := Option.map_eq_some_iff.1 h
   injection h2 with h3 h4
   subst h3; subst h4
   obtain ⟨h5, h6⟩ := cutP_some (a := q.1) (b := q.2) hq
   exact ⟨by rw [List.cons_append, ← h5], by simp only [List.mem_cons, not_or]; exact ⟨fun h => e h.symm, h6⟩⟩
theorem cutP_none {c : UInt8} : ∀ {l : List UInt8}, cutP c l = none ↔ c ∉ l
 | [] => by simp [cutP]
 | x :: r => by
  unfold cutP
  by_cases e : x = c
  ·rw [if_pos e]; simp [e]
  ·rw [if_neg e, Option.map_eq_none_iff, cutP_none, List.mem_cons, not_or]
   exact ⟨fun h => ⟨fun h2 => e h2.symm, h⟩, fun h => h.2⟩
def decV (l : List UInt8) : Nat := l.foldl (fun a c => a * 10 + (c.toNat - 48)) 0
def digitB (c : UInt8) : Bool := decide (48 ≤ c ∧ c ≤ 57)
def decP (l : List UInt8) (lo hi : Int) : Option Int :=
 let neg := l.head? = some 45
 let d := if neg then l.drop 1 else l
 if d.all digitB = true ∧ d ≠ [] ∧ ¬ (d.head? = some 48 ∧ l ≠ [48]) then
  let v : Int := if neg then -(decV d : Int) else (decV d : Int)
  if lo ≤ v ∧ v ≤ hi then some v else none
 else none
structure Spot3 where
 name : List UInt8
 section_ : Int
 wide : Bool
deriving DecidableEq
def lastP (c : UInt8) (l : List UInt8) : Option (List UInt8 × List UInt8) := (cutP c l.reverse).map fun q => (q.2.reverse, q.1.reverse)
def whereP (n : List UInt8) : Spot3 :=
 let w := decide (1 < n.length) && decide (n.getLast? = some 42)
 let m := if w = true then n.dropLast else n
 match lastP 42 m with
 | none => ⟨m, -1, w⟩
 | some q => match decP q.2 0 63 with
  | none => ⟨m, -1, w⟩
  | some v => ⟨q.1, v, w⟩
def pairG : List UInt8 → List Tok → Option (List UInt8 × List UInt8)
 | _, [] => none
 | name, t :: r => match (if t.kind = 1 then cutP 61 t.text else none) with
  | none => pairG (name ++ t.text) r
  | some q => some (smallP (name ++ q.1), match q.2, r with
   | [], u :: _ => if u.kind = 2 then meanP u else joinP r
   | b, _ => b ++ joinP r)
def pairP (l : List Tok) : List UInt8 × List UInt8 := (pairG [] l).getD ([], [])
def hexV (c : UInt8) : Option Nat := if 48 ≤ c ∧ c ≤ 57 then some (c.toNat - 48) else if 97 ≤ c ∧ c ≤ 102 then some (c.toNat - 87) else if 65 ≤ c ∧ c ≤ 70 then some (c.toNat - 55) else none
def openP : List UInt8 → List UInt8
 | c :: x :: y :: r => if c = 37 then (match hexV x, hexV y with
   | some a, some b => UInt8.ofNat (a * 16 + b) :: openP r
   | _, _ => c :: openP (x :: y :: r)) else c :: openP (x :: y :: r)
 | l => l
def splitP (l : List UInt8) : List UInt8 × List UInt8 := match cutP 39 l with
 | none => ([], l)
 | some q => match cutP 39 q.2 with
  | none => ([], l)
  | some p => (q.1, p.2)
def repairF : Nat → List UInt8 → List UInt8
 | 0, _ => []
 | f + 1, l => if l = [] then [] else Lib.encodeRune (uN l).1 ++ repairF f (l.drop (uN l).2)
def repairP (l : List UInt8) : List UInt8 := repairF l.length l
def windowsT : List Nat := [8364, 129, 8218, 402, 8222, 8230, 8224, 8225, 710, 8240, 352, 8249, 338, 141, 381, 143, 144, 8216, 8217, 8220, 8221, 8226, 8211, 8212, 732, 8482, 353, 8250, 339, 157, 382, 376]
def signA (c : UInt8) : Nat := if c < 128 then c.toNat else 65533
def signL (c : UInt8) : Nat := c.toNat
def signW (c : UInt8) : Nat := if c < 128 ∨ 160 ≤ c then c.toNat else windowsT.getD (c.toNat - 128) 0
def bytesBy (sign : UInt8 → Nat) (l : List UInt8) : List UInt8 := l.flatMap fun c => Lib.encodeRune (sign c)
def setOf (name : List UInt8) : Nat :=
 if name = [117, 115, 45, 97, 115, 99, 105, 105] ∨ name = [97, 115, 99, 105, 105] then 1
 else if name = [117, 116, 102, 45, 56] ∨ name = [117, 116, 102, 56] then 2
 else if name = [105, 115, 111, 45, 56, 56, 53, 57, 45, 49] ∨ name = [108, 97, 116, 105, 110, 49] then 3
 else if name = [119, 105, 110, 100, 111, 119, 115, 45, 49, 50, 53, 50] ∨ name = [99, 112, 49, 50, 53, 50] then 4 else 0
def decodeSet (name s : List UInt8) : List UInt8 := match setOf (smallP name) with
 | 1 => bytesBy signA s
 | 2 => repairP s
 | 3 => bytesBy signL s
 | _ => bytesBy signW s
def meantP (name s : List UInt8) : List UInt8 := if name = [] then repairP s else decodeSet name s
structure One1 where
 at_ : Spot3
 value : List UInt8
def onesP (l : List (List Tok)) : List One1 := (l.map pairP).filterMap fun q => if q.1 = [] then none else some ⟨whereP q.1, q.2⟩
def firstP (l : List One1) (name : List UInt8) (sec : Int) : Option One1 := l.find? fun x => decide (x.at_.name = name) && decide (x.at_.section_ = sec)
def restG (l : List One1) (name : List UInt8) : Nat → Int → List UInt8
 | 0, _ => []
 | f + 1, k => match firstP l name k with
  | none => []
  | some x => (if x.at_.wide = true then openP x.value else x.value) ++ restG l name f (k + 1)
def valueP (l : List One1) (name : List UInt8) : Option (List UInt8) := match firstP l name 0 with
 | none => match l.find? (fun x => decide (x.at_ = ⟨name, -1, true⟩)) with
  | some x => some (meantP (splitP x.value).1 (openP (splitP x.value).2))
  | none => (firstP l name (-1)).map (·.value)
 | some x =>
  if x.at_.wide = true then some (meantP (splitP x.value).1 (openP (splitP x.value).2 ++ restG l name 63 1)) else some (x.value ++ restG l name 63 1)
def namesP (l : List One1) : List (List UInt8) := l.foldl (fun a x => if x.at_.name ∈ a then a else a ++ [x.at_.name]) []
def paramsP (l : List (List Tok)) : List (List UInt8 × List UInt8) := (namesP (onesP l)).filterMap fun n => (valueP (onesP l) n).map fun v => (n, v)
structure Typ where
 kind : List UInt8
 sub : List UInt8
 params : List (List UInt8 × List UInt8)
def tokRows (s : List UInt8) : List (List Tok) := rowsP (bareP (scanP s))
def parseT (s : List UInt8) : Typ × Bool := match cutP 47 (joinP ((tokRows s).headD [])) with
 | none => (⟨[116, 101, 120, 116], [112, 108, 97, 105, 110], []⟩, false)
 | some q => if isWord q.1 = true ∧ isWord q.2 = true then (⟨smallP q.1, smallP q.2, paramsP ((tokRows s).drop 1)⟩, true) else (⟨[116, 101, 120, 116], [112, 108, 97, 105, 110], []⟩, false)
def dispT (s : List UInt8) : List UInt8 × List (List UInt8 × List UInt8) :=
 let f := smallP (joinP ((tokRows s).headD []))
 (if isWord f = true then f else [], paramsP ((tokRows s).drop 1))
def paramT (l : List (List UInt8 × List UInt8)) (name : List UInt8) : Option (List UInt8) := (l.find? fun p => decide (smallP p.1 = smallP name)).map (·.2)
def plainBut : List UInt8 := [40, 41, 60, 62, 64, 44, 59, 58, 92, 34, 47, 91, 93, 63, 61]
def allB (low : UInt8) (but l : List UInt8) : Bool := l.all fun c => decide (low ≤ c ∧ c ≤ 126) && !but.contains c
def hexU (n : Nat) : UInt8 := UInt8.ofNat (if n < 10 then 48 + n else 55 + n)
def fmtV (v : List UInt8) : List UInt8 :=
 if v ≠ [] ∧ allB 33 plainBut v = true then 61 :: v
 else if allB 32 [] v = true then [61, 34] ++ (v.flatMap fun c => if c = 92 ∨ c = 34 then [92, c] else [c]) ++ [34]
 else [42, 61, 117, 116, 102, 45, 56, 39, 39] ++ v.flatMap fun c => if letterB c = true ∨ c = 45 ∨ c = 46 ∨ c = 95 ∨ c = 126 then [c] else [37, hexU (c.toNat / 16), hexU (c.toNat % 16)]
def lineP (first : List UInt8) (l : List (List UInt8 × List UInt8)) : List UInt8 := first ++ l.flatMap fun p => [59, 32] ++ p.1 ++ fmtV p.2
end Go.Proofs.YthidbmeaccpjdaaGreatDoor
end
section
namespace Go.Proofs.YthidbmeaccpjdaaGreatDoor
open Go.RowKit
set_option linter.unusedVariables false
def repA (old new s : List UInt8) : List UInt8 := Lib.replaceK old new (Lib.count s old) s
theorem repA_nil {old new : List UInt8} (h : old ≠ []) : repA old new [] = [] := by
 have h1 : Lib.index [] old = -1 := Lib.index_past h (Lib.NoOcc.zero _ _) (by cases old with | nil => exact absurd rfl h | cons c t => simp)
 unfold repA
 rw [Lib.count_miss h1]
 rfl
theorem repA_hit {old new s : List UInt8} (h : old ≠ []) : repA old new (old ++ s) = new ++ repA old new s := by
 have h1 : Lib.index (old ++ s) old = (0 : Nat) := Lib.index_hit (Lib.NoOcc.zero _ _) (Nat.zero_le _) (by
  rw [Lib.occAt_iff_take _ _ _ (by simp)]
  simp)
 unfold repA
 rw [Lib.count_hit h h1, Nat.add_comm 1, Lib.replaceK_hit _ _ _ _ _ h1]
 simp
theorem repA_skip {old new : List UInt8} {c : UInt8} {r : List UInt8} (h : old ≠ []) (hn : Lib.occAt (c :: r) old 0 = false) : repA old new (c :: r) = c :: repA old new r := by
 have hno : Lib.NoOcc (c :: r) old 1 := (Lib.NoOcc.zero _ _).succ hn
 have h1 := Lib.index_drop hno (by simp)
 rw [List.drop_one, List.tail_cons] at h1
 unfold repA
 by_cases hm : Lib.index r old = -1
 ·have h2 : Lib.index (c :: r) old = -1 := by rw [h1, hm]; rfl
  rw [Lib.count_miss h2, Lib.count_miss hm]
  rfl
 ·have hge := Lib.index_ge r old
  obtain ⟨i, hi⟩ : ∃ i : Nat, Lib.index r old = i := ⟨(Lib.index r old).toNat, by omega⟩
  have h2 : Lib.index (c :: r) old = ((i + 1 : Nat) : Int) := by
   rw [h1, hi]
   have : ¬ ((i : Int) == -1) = true := fun e => by have := beq_iff_eq.1 e; omega
   rw [if_neg this]
   omega
  rw [Lib.count_hit h h2, Lib.count_hit h hi, Nat.add_comm 1, Nat.add_comm 1, Lib.replaceK_hit _ _ _ _ _ h2, Lib.replaceK_hit _ _ _ _ _ hi, show i + 1 + old.length = (i + old.length) + 1 by omega, List.drop_succ_cons, List.take_succ_cons]
  simp
theorem replaceAll_eq {old new : List UInt8} (hne : old ≠ new) (s : List UInt8) : Lib.replaceAll s old new = repA old new s := by
 unfold Lib.replaceAll Lib.replace repA
 have h1 : ¬ (old == new) = true := fun e => hne (beq_iff_eq.1 e)
 rw [if_neg h1]
 unfold Lib.replaceNum
 rw [if_pos (.inl (by omega))]
def crlfP : List UInt8 → List UInt8
 | [] => []
 | [c] => [c]
 | c :: d :: r => if c = 13 ∧ d = 10 then crlfP r else c :: crlfP (d :: r)
theorem occ_head {c : UInt8} {r : List UInt8} {x : UInt8} {t : List UInt8} (h : c ≠ x) : Lib.occAt (c :: r) (x :: t) 0 = false := by
 cases ho : Lib.occAt (c :: r) (x :: t) 0 with
 | false => rfl
 | true =>
  have := Lib.occAt_head rfl ho
  simp at this
  exact absurd this h
theorem crlf_eq : ∀ (n : Nat) (l : List UInt8), l.length ≤ n → repA [13, 10] [] l = crlfP l
 | _, [], _ => repA_nil (by simp)
 | n, [c], _ => by
  rw [repA_skip (by simp), repA_nil (by simp)]
  ·rfl
  ·cases ho : Lib.occAt [c] [13, 10] 0 with
   | false => rfl
   | true =>
    have := Lib.occAt_room ho
    simp at this
 | 0, c :: d :: r, h => by simp at h
 | n + 1, c :: d :: r, h => by
  have h1 : r.length ≤ n := by simp at h; omega
  have h2 : (d :: r).length ≤ n := by simp at h ⊢; omega
  by_cases he : c = 13 ∧ d = 10
  ·obtain ⟨rfl, rfl⟩ := he
   have h3 := repA_hit (old := [13, 10]) (new := []) (s := r) (by simp)
   simp only [List.cons_append, List.nil_append] at h3
   rw [h3, crlf_eq n r h1]
   rfl
  ·rw [repA_skip (by simp), crlf_eq n (d :: r) h2]
   ·show _ = (if c = 13 ∧ d = 10 then crlfP r else c :: crlfP (d :: r))
    rw [if_neg he]
   ·cases ho : Lib.occAt (c :: d :: r) [13, 10] 0 with
    | false => rfl
    | true =>
     rw [Lib.occAt_iff_take _ _ _ (by simp)] at ho
     simp at ho
     exact absurd ho he
theorem lf_eq : ∀ (l : List UInt8), repA [10] [] l = l.filter fun c => decide (c ≠ 10)
 | [] => repA_nil (by simp)
 | c :: r => by
  by_cases he : c = 10
  ·subst he
   have h3 := repA_hit (old := [10]) (new := []) (s := r) (by simp)
   simp only [List.cons_append, List.nil_append] at h3
   rw [h3, lf_eq r]
   rfl
  ·rw [repA_skip (by simp) (occ_head he), lf_eq r, List.filter_cons_of_pos (by simpa using he)]
def unfoldP (l : List UInt8) : List UInt8 := (crlfP l).filter fun c => decide (c ≠ 10)
theorem crlfP_len : ∀ (n : Nat) (l : List UInt8), l.length ≤ n → (crlfP l).length ≤ l.length
 | _, [], _ => Nat.le_refl _
 | _, [c], _ => Nat.le_refl _
 | 0, c :: d :: r, h => by simp at h
 | n + 1, c :: d :: r, h => by
  have h1 := crlfP_len n r (by simp at h; omega)
  have h2 := crlfP_len n (d :: r) (by simp at h ⊢; omega)
  show (if c = 13 ∧ d = 10 then crlfP r else c :: crlfP (d :: r)).length ≤ _
  split
  ·simp only [List.length_cons]; omega
  ·simp only [List.length_cons] at h2 ⊢; omega
theorem unfoldP_len (l : List UInt8) : (unfoldP l).length ≤ l.length := Nat.le_trans (List.length_filter_le _ _) (crlfP_len _ l (Nat.le_refl _))
def endP (l : List UInt8) : Nat := match cutP 10 l with
 | some q => q.1.length + 1
 | none => l.length
theorem endP_le (l : List UInt8) : endP l ≤ l.length := by
 unfold endP
 cases h : cutP 10 l with
 | none => exact Nat.le_refl _
 | some q =>
  have h1 := (cutP_some (a := q.1) (b := q.2) h).1
  show q.1.length + 1 ≤ _
  rw [h1]
  simp
theorem endP_pos {l : List UInt8} (h : l ≠ []) : 1 ≤ endP l := by
 unfold endP
 cases h1 : cutP 10 l with
 | some q => show 1 ≤ q.1.length + 1; omega
 | none =>
  show 1 ≤ l.length
  cases l with
  | nil => exact absurd rfl h
  | cons c r => simp
def tabB (c : UInt8) : Bool := decide (c = 32) || decide (c = 9)
def goesP (l : List UInt8) : Bool := match l with
 | [] => false
 | c :: _ => tabB c
def nudeP (l : List UInt8) : List UInt8 := if l.getLast? = some 10 then (if l.dropLast.getLast? = some 13 then l.dropLast.dropLast else l.dropLast) else l
theorem nudeP_len (l : List UInt8) : (nudeP l).length ≤ l.length := by
 unfold nudeP
 split
 ·split
  ·rw [List.length_dropLast, List.length_dropLast]; omega
  ·rw [List.length_dropLast]; omega
 ·exact Nat.le_refl _
def nameB (c : UInt8) : Bool := decide (33 ≤ c ∧ c ≤ 126) && decide (c ≠ 58)
def nameOk (l : List UInt8) : Bool := l.all nameB && !l.isEmpty
def blanksP : List UInt8 := [32, 9]
structure Fld where
 name : List UInt8
 value : List UInt8
 raw : List UInt8
 bad : Bool
def fldP (raw : List UInt8) : Fld := match cutP 58 (nudeP (raw.take (endP raw))) with
 | none => ⟨[], [], raw, true⟩
 | some q => if nameOk (Lib.trimRightS q.1 blanksP) = true then ⟨Lib.trimRightS q.1 blanksP, nudeP (raw.drop (q.1.length + 1)), raw, false⟩ else ⟨[], [], raw, true⟩
def moreP : Nat → List UInt8 → Nat
 | 0, _ => 0
 | f + 1, l => if goesP l = true then endP l + moreP f (l.drop (endP l)) else 0
theorem moreP_le : ∀ (f : Nat) (l : List UInt8), moreP f l ≤ l.length
 | 0, l => Nat.zero_le _
 | f + 1, l => by
  unfold moreP
  split
  ·have h1 := moreP_le f (l.drop (endP l))
   have h2 := endP_le l
   rw [List.length_drop] at h1
   omega
  ·exact Nat.zero_le _
theorem goes_ne {l : List UInt8} (h : goesP l = true) : l ≠ [] := by
 rintro rfl
 cases h
theorem moreP_fuel : ∀ (f g : Nat) (l : List UInt8), l.length ≤ f → l.length ≤ g → moreP f l = moreP g l
 | 0, g, l, hf, hg => by
  have : l = [] := List.eq_nil_of_length_eq_zero (by omega)
  subst this
  cases g with
  | zero => rfl
  | succ g => rfl
 | f + 1, 0, l, hf, hg => by
  have : l = [] := List.eq_nil_of_length_eq_zero (by omega)
  subst this
  rfl
 | f + 1, g + 1, l, hf, hg => by
  unfold moreP
  by_cases h : goesP l = true
  ·rw [if_pos h, if_pos h]
   have h1 := endP_pos (goes_ne h)
   have h2 := endP_le l
   rw [moreP_fuel f g (l.drop (endP l)) (by rw [List.length_drop]; omega) (by rw [List.length_drop]; omega)]
  ·rw [if_neg h, if_neg h]
def headF : Nat → List UInt8 → List Fld × Nat
 | 0, _ => ([], 0)
 | f + 1, l => if l = [] then ([], 0) else
  if nudeP (l.take (endP l)) = [] then ([], endP l) else
  let m := endP l + moreP l.length (l.drop (endP l))
  (fldP (l.take m) :: (headF f (l.drop m)).1, m + (headF f (l.drop m)).2)
def headP (l : List UInt8) : List Fld × Nat := headF l.length l
theorem headF_fuel : ∀ (f g : Nat) (l : List UInt8), l.length ≤ f → l.length ≤ g → headF f l = headF g l
 | 0, g, l, hf, hg => by
  have : l = [] := List.eq_nil_of_length_eq_zero (by omega)
  subst this
  cases g with
  | zero => rfl
  | succ g => rfl
 | f + 1, 0, l, hf, hg => by
  have : l = [] := List.eq_nil_of_length_eq_zero (by omega)
  subst this
  rfl
 | f + 1, g + 1, l, hf, hg => by
  unfold headF
  by_cases h : l = []
  ·rw [if_pos h, if_pos h]
  ·rw [if_neg h, if_neg h]
   by_cases h2 : nudeP (l.take (endP l)) = []
   ·rw [if_pos h2, if_pos h2]
   ·rw [if_neg h2, if_neg h2]
    have h3 := endP_pos h
    have h4 := endP_le l
    dsimp only
    rw [headF_fuel f g (l.drop (endP l + moreP l.length (l.drop (endP l)))) (by rw [List.length_drop]; omega) (by rw [List.length_drop]; omega)]
def getP (l : List Fld) (name : List UInt8) : Option (List UInt8) := (l.find? fun f => !f.bad && decide (smallP f.name = smallP name)).map fun f => Lib.trimS (unfoldP f.value) blanksP
def airP (l : List UInt8) : List UInt8 := l.map fun c => if c = 13 ∨ c = 10 then 32 else c
def pieceP : List UInt8 → Nat
 | [] => 1
 | [_] => 1
 | c :: d :: r => if tabB d = true ∧ tabB c = false then 1 else 1 + pieceP (d :: r)
def foldG : Nat → Bool → Nat → List UInt8 → List UInt8
 | 0, _, _, _ => []
 | f + 1, first, n, v => if v = [] then [] else
  if first = false ∧ 78 < n + pieceP v then [13, 10] ++ v.take (pieceP v) ++ foldG f false (pieceP v) (v.drop (pieceP v))
  else v.take (pieceP v) ++ foldG f false (n + pieceP v) (v.drop (pieceP v))
def foldV (name v : List UInt8) : List UInt8 := foldG v.length true (name.length + 2) v
def putP (name value : List UInt8) : List UInt8 := if nameOk name = true then name ++ [58, 32] ++ foldV name (Lib.trimS (airP value) blanksP) ++ [13, 10] else []
end Go.Proofs.YthidbmeaccpjdaaGreatDoor
end
section
namespace Go.Proofs.YthidbmeaccpjdaaGreatDoor
open Go.RowKit
set_option linter.unusedVariables false
def linesP : List UInt8 → List (List UInt8)
 | [] => []
 | c :: r => if c = 10 then [10] :: linesP r else match linesP r with
  | [] => [[c]]
  | h :: t => (c :: h) :: t
theorem linesP_nil : linesP [] = [] := rfl
theorem linesP_flat : ∀ l, (linesP l).flatten = l
 | [] => rfl
 | c :: r => by
  have ih := linesP_flat r
  conv => lhs; unfold linesP
  split
  ·rename_i h
   rw [List.flatten_cons, ih, h]
   rfl
  ·cases h : linesP r with
   | nil => rw [h] at ih; rw [← ih]; rfl
   | cons a t =>
    rw [h, List.flatten_cons] at ih
    show (c :: a) ++ t.flatten = _
    rw [← ih]
    rfl
theorem linesP_cut : ∀ {l a b : List UInt8}, cutP 10 l = some (a, b) → linesP l = (a ++ [10]) :: linesP b
 | [], a, b, h => by cases h
 | c :: r, a, b, h => by
  unfold cutP at h
  conv => lhs; unfold linesP
  by_cases hc : c = 10
  ·rw [if_pos hc] at h ⊢
   injection h with h
   injection h with h1 h2
   subst h1
   subst h2
   rfl
  ·rw [if_neg hc] at h ⊢
   cases hr : cutP 10 r with
   | none => rw [hr] at h; cases h
   | some q =>
    obtain ⟨a', b'⟩ := q
    rw [hr] at h
    injection h with h
    injection h with h1 h2
    rw [linesP_cut hr]
    subst h2
    rw [← h1]
    rfl
theorem linesP_one : ∀ {l : List UInt8}, l ≠ [] → cutP 10 l = none → linesP l = [l]
 | [], h, _ => absurd rfl h
 | [c], _, h => by
  have := cutP_none.1 h
  simp at this
  unfold linesP
  rw [if_neg (fun e => this e.symm)]
  rfl
 | c :: d :: r, _, h => by
  have h1 := cutP_none.1 h
  simp at h1
  have h2 : cutP 10 (d :: r) = none := cutP_none.2 (by simp [h1])
  have h3 := linesP_one (by simp) h2
  conv => lhs; unfold linesP
  rw [if_neg (fun e => h1.1 e.symm), h3]
theorem linesP_end {l : List UInt8} (h : l ≠ []) : linesP l = l.take (endP l) :: linesP (l.drop (endP l)) := by
 unfold endP
 cases hc : cutP 10 l with
 | none =>
  rw [linesP_one h hc]
  show _ = l.take l.length :: linesP (l.drop l.length)
  rw [List.take_length, List.drop_length]
  rfl
 | some q =>
  obtain ⟨a, b⟩ := q
  rw [linesP_cut hc]
  have h1 := (cutP_some hc).1
  show _ = l.take (a.length + 1) :: linesP (l.drop (a.length + 1))
  rw [h1, show a ++ 10 :: b = (a ++ [10]) ++ b by simp, show a.length + 1 = (a ++ [10]).length by simp, List.take_left, List.drop_left]
def bndP (l b : List UInt8) : Bool × Bool :=
 if (([45, 45] : List UInt8) ++ b).isPrefixOf l = true then
  let r := l.drop (b.length + 2)
  let s := ([45, 45] : List UInt8).isPrefixOf r
  ((nudeP (if s = true then r.drop 2 else r)).all tabB, s)
 else (false, false)
def aheadP (s : List UInt8) (o a : Nat) : Nat := if o < a ∧ s[a - 1]? = some 10 then (if o < a - 1 ∧ s[a - 1 - 1]? = some 13 then a - 1 - 1 else a - 1) else a
def bodF (s b : List UInt8) : List (List UInt8) → Nat → Option Nat → List (Nat × Nat)
 | [], _, none => []
 | [], _, some o => [(o, s.length)]
 | l :: r, a, o => if (bndP l b).1 = true then
   (match o with
    | some x => [(x, aheadP s x a)]
    | none => []) ++ if (bndP l b).2 = true then [] else bodF s b r (a + l.length) (some (a + l.length))
  else bodF s b r (a + l.length) o
def bodiesP (s : List UInt8) (i : Nat) (b : List UInt8) : List (Nat × Nat) := bodF s b (linesP (s.drop i)) i none
structure Prt where
 up : Int
 depth : Int
 start : Int
 body : Int
 stop : Int
 typ : Typ
 code : List UInt8
def ctName : List UInt8 := [99, 111, 110, 116, 101, 110, 116, 45, 116, 121, 112, 101]
def cteName : List UInt8 := [99, 111, 110, 116, 101, 110, 116, 45, 116, 114, 97, 110, 115, 102, 101, 114, 45, 101, 110, 99, 111, 100, 105, 110, 103]
def wMessage : List UInt8 := [109, 101, 115, 115, 97, 103, 101]
def wRfc : List UInt8 := [114, 102, 99, 56, 50, 50]
def wMulti : List UInt8 := [109, 117, 108, 116, 105, 112, 97, 114, 116]
def wDigest : List UInt8 := [100, 105, 103, 101, 115, 116]
def wBound : List UInt8 := [98, 111, 117, 110, 100, 97, 114, 121]
def wB64 : List UInt8 := [98, 97, 115, 101, 54, 52]
def wQp : List UInt8 := [113, 117, 111, 116, 101, 100, 45, 112, 114, 105, 110, 116, 97, 98, 108, 101]
def codeP (v : List UInt8) : List UInt8 := match bareP (scanP v) with
 | t :: _ => if t.kind = 1 then smallP t.text else []
 | [] => []
def kindP14 (h : List Fld) (digest : Bool) : Typ := if (getP h ctName).isSome = true ∨ digest = false then (parseT ((getP h ctName).getD [])).1 else ⟨wMessage, wRfc, []⟩
def readPt (s : List UInt8) (up depth : Int) (i j : Nat) (digest : Bool) : Prt :=
 let h := headP ((s.take j).drop i)
 ⟨up, depth, i, (i + h.2 : Nat), j, kindP14 h.1 digest, codeP ((getP h.1 cteName).getD [])⟩
def innerP (s : List UInt8) (p : Prt) : List (Nat × Nat) :=
 if 8 ≤ p.depth then []
 else if p.typ.kind = wMulti then
  (if (paramT p.typ.params wBound).getD [] ≠ [] ∧ (10 : UInt8) ∉ (paramT p.typ.params wBound).getD [] then bodiesP (s.take p.stop.toNat) p.body.toNat ((paramT p.typ.params wBound).getD []) else [])
 else if p.typ.kind = wMessage ∧ p.typ.sub = wRfc ∧ p.code ≠ wB64 ∧ p.code ≠ wQp then [(p.body.toNat, p.stop.toNat)] else []
def digestB (p : Prt) : Bool := decide (p.typ.kind = wMulti) && decide (p.typ.sub = wDigest)
def openM (s : List UInt8) : Nat → List Prt × Nat → Prt → List Prt × Nat
 | 0, st, _ => st
 | f + 1, st, p => if 64 < st.2 + (innerP s p).length then (st.1 ++ [p], st.2)
  else (innerP s p).foldl (fun t k => openM s f t (readPt s st.1.length (p.depth + 1) k.1 k.2 (digestB p))) (st.1 ++ [p], st.2 + (innerP s p).length)
def partsP (s : List UInt8) : List Prt := (openM s 9 ([], 1) (readPt s (-1) 0 0 s.length false)).1
def fitsP (n : Nat) (p : Prt) : Bool := decide (0 ≤ p.start ∧ p.start ≤ p.body ∧ p.body ≤ p.stop ∧ p.stop ≤ n)
def headOf (s : List UInt8) (p : Prt) : List Fld := if fitsP s.length p = true then (headP ((s.take p.stop.toNat).drop p.start.toNat)).1 else []
def bodyOf (s : List UInt8) (p : Prt) : List UInt8 := if fitsP s.length p = true then (s.take p.stop.toNat).drop p.body.toNat else []
def rawOf (s : List UInt8) (p : Prt) : List UInt8 := if fitsP s.length p = true then (s.take p.stop.toNat).drop p.start.toNat else []
end Go.Proofs.YthidbmeaccpjdaaGreatDoor
end
