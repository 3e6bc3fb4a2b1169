/- Layer 2, plain: the encoding of integers, strings and lists; reading them back. The library: sync. Words for memory: a run of cells that reads as a list, kept by whatever leaves older blocks alone; integers that a slice owns; strings. The library: sync. Layer 10, plain: tokens. Plain: units of UTF-8, decoded (the first part of UtfP, without the tables of folding). -/
import Derived.Lib.Hide
import Derived.Test.YthidbmeaccpjdaaGreatDoorProg
import Derived.RowKit
import Derived.Tactics
import Derived.Tactics2
import Derived.Defers
import Derived.Laws.Pointers
import Derived.Laws.LoneSync
import Derived.RegionTactic
import Derived.RegionCalls
import Derived.ChangeAlike
import Derived.ProofKit
import Derived.WalkKit
import Derived.WalkSpells
import Derived.WalkLawsBesides
import Derived.BigQuiet
import Derived.Deep.QuietTactic
import Derived.Deep.DeepCutAuto
import Derived.Deep.RegionWith
import Derived.Laws.OwnMore
import Derived.Deep.AppendLies
import Derived.Deep.Draws
import Derived.Maps.AppendAt
import Derived.OneCell
import Derived.ShutString
import Derived.Lib.DecodeN
import Derived.Lib.RuneBytes
namespace Go.Proofs.YthidbmeaccpjdaaGreatDoor
open Go.RowKit
set_option linter.unusedVariables false
set_option maxHeartbeats 4000000
def hi : List UInt8 → Nat
 | [] => 0
 | b :: r => if 128 ≤ b.toNat then hi r + 1 else 0
def val : List UInt8 → Nat
 | [] => 0
 | b :: r => b.toNat % 128 + 128 * val r
def rnum (l : List UInt8) : Option (Nat × List UInt8) :=
 if h : hi l < l.length then (if hi l ≤ 8 ∧ (hi l = 0 ∨ l[hi l].toNat ≠ 0) then some (val (l.take (hi l + 1)), l.drop (hi l + 1)) else none) else none
structure Rd where
 s : List UInt8
 bad : Bool
def Rd.fails : Rd := ⟨[], true⟩
def Rd.num (r : Rd) : Nat × Rd := match rnum r.s with
 | some (n, t) => (n, ⟨t, r.bad⟩)
 | none => (0, Rd.fails)
def Rd.take (r : Rd) (n : Int) : List UInt8 × Rd := if n < 0 ∨ (r.s.length : Int) < n ∨ r.bad = true then ([], Rd.fails) else (r.s.take n.toNat, ⟨r.s.drop n.toNat, r.bad⟩)
def Rd.text (r : Rd) : List UInt8 × Rd := r.num.2.take r.num.1
def Rd.loop : Nat → Rd → List Int → List Int × Rd
 | 0, r, out => (out, r)
 | k + 1, r, out => if r.num.2.bad = true then ([], r.num.2) else Rd.loop k r.num.2 (out ++ [(r.num.1 : Int)])
def Rd.done (r : Rd) : Bool := !r.bad && r.s.isEmpty
theorem race_disable (w : World) : (callFunc 283 #[]).run Tryz.prog w = .ok (.value (.tuple #[])) w := run_call_mark0 Tryz.func283 (by kernel_rfl) (by kernel_rfl) (by kernel_rfl) .disable (by kernel_rfl) w
theorem race_enable (w : World) : (callFunc 285 #[]).run Tryz.prog w = .ok (.value (.tuple #[])) w := run_call_mark0 Tryz.func285 (by kernel_rfl) (by kernel_rfl) (by kernel_rfl) .enable (by kernel_rfl) w
theorem race_acquire (a : Addr) (w : World) : (callFunc 286 #[.pointer (some a)]).run Tryz.prog w = .ok (.value (.tuple #[])) w := run_call_marked Tryz.func286 (by kernel_rfl) (by kernel_rfl) (by kernel_rfl) .acquire (by kernel_rfl) a w
theorem race_release (a : Addr) (w : World) : (callFunc 288 #[.pointer (some a)]).run Tryz.prog w = .ok (.value (.tuple #[])) w := run_call_marked Tryz.func288 (by kernel_rfl) (by kernel_rfl) (by kernel_rfl) .releaseMerge (by kernel_rfl) a w
set_option maxRecDepth 100000 in
theorem store_deferred (a : Addr) (x : Value) (u : FrameMode) (w : World) (hc : w.cell? a = some x) (hz : w.frozen? a = false) :
  CallsD Tryz.prog 233 #[.pointer (some a), .bool true] u w fun e u' w' => u' = u ∧ (e = .returned (.tuple #[]) ∧ w' = w.drew.setCell a (.int .u32 1)) := by
 have hc' : w.drew.cell? a = some x := by go_simp
 have hz' : w.drew.frozen? a = false := by go_simp
 have hst := run_call_store (P := Tryz.prog) Tryz.func267 (by kernel_rfl) (by kernel_rfl) (by kernel_rfl) (by kernel_rfl) (k := .u32) (y := 1) hc' hz'
 go_enter_d Tryz.func233, Tryz.ntmps233
 go_wp2
 go_region_calls
 all_goals (go_end0; exact ⟨rfl, rfl⟩)
set_option maxRecDepth 100000 in
theorem unlock_deferred (a : Addr) (u : FrameMode) (w : World) (hc : w.cell? a = some (.int .i32 1)) (hz : w.frozen? a = false) :
  CallsD Tryz.prog 232 #[.pointer (some a)] u w fun e u' w' => u' = u ∧ (e = .returned (.tuple #[]) ∧ w' = w.setCell a (.int .i32 0)) := by
 have hd := race_disable
 have he := race_enable
 have hr := race_release
 have hadd := run_call_add (P := Tryz.prog) Tryz.func289 (by kernel_rfl) (by kernel_rfl) (by kernel_rfl) .i32 (by kernel_rfl) (y := -1) (s := 0) hc hz (by simp [go_sem]; rfl)
 first | have hcv := run_convert_to_unsafe (P := Tryz.prog) (src := 238) (dst := 182) Tryz.underlying238 Tryz.underlying182 (by kernel_rfl) hc | have hcv := run_convert_to_unsafe (P := Tryz.prog) (src := 260) (dst := 182) Tryz.underlying260 Tryz.underlying182 (by kernel_rfl) hc
 go_enter_d Tryz.func232, Tryz.ntmps232
 go_wp2
 go_end0
 go_wp2
 all_goals
  go_end0
  exact ⟨rfl, rfl⟩
set_option maxRecDepth 100000 in
theorem lock_free (a : Addr) (w : World) (hc : w.cell? a = some (.int .i32 0)) (hz : w.frozen? a = false) :
  Calls Tryz.prog 231 #[.pointer (some a)] w fun e w' => e = .returned (.tuple #[]) ∧ w' = w.setCell a (.int .i32 1) := by
 have hd := race_disable
 have he := race_enable
 have ha := race_acquire
 have hcas := run_call_cas_hit (P := Tryz.prog) Tryz.func284 (by kernel_rfl) (by kernel_rfl) (by kernel_rfl) .i32 (by kernel_rfl) (y := 1) hc hz
 have hc' : (w.setCell a (.int .i32 1)).cell? a = some (.int .i32 1) := World.cell?_setCell_same w a _ hc
 first | have hcv := run_convert_to_unsafe (P := Tryz.prog) (src := 238) (dst := 182) Tryz.underlying238 Tryz.underlying182 (by kernel_rfl) hc' | have hcv := run_convert_to_unsafe (P := Tryz.prog) (src := 260) (dst := 182) Tryz.underlying260 Tryz.underlying182 (by kernel_rfl) hc'
 go_enter Tryz.func231, Tryz.ntmps231
 go_wp2
 first | go_end0 | (simp only [Exit.inBlock, Exit.then]; refine bodyPost_ret (results_none rfl _ _ _) rfl ?_) | refine bodyPost_ret (results_none rfl _ _ _) rfl ?_
 go_wp2
 all_goals
  go_end0
  exact ⟨rfl, rfl⟩
end Go.Proofs.YthidbmeaccpjdaaGreatDoor
section
namespace Go.Proofs.YthidbmeaccpjdaaGreatDoor
open Go.RowKit
set_option linter.unusedVariables false
theorem add_block (a : Addr) (n : Nat) : (a.add n).block = a.block := by unfold Addr.add; split <;> rfl
theorem add_add' (a : Addr) (i j : Nat) : (a.add i).add j = a.add (i + j) := by
 unfold Addr.add
 by_cases hi : i = 0 <;> by_cases hj : j = 0 <;> simp [hi, hj, Nat.add_assoc]
def Run (w : World) (B : Nat) (A : Option Addr) (xs : List Value) : Prop :=
 xs = [] ∨ ∃ ad, A = some ad ∧ ad.block < B ∧ ∀ j u, xs[j]? = some u → w.cell? (ad.add j) = some u
section
variable {w w' : World} {B B' : Nat} {A : Option Addr} {xs : List Value}
theorem Run.nil_ : Run w B A [] := .inl rfl
theorem Run.at_ {k : Nat} (h : Run w B A xs) (hk : k < xs.length) : ∃ ad u, A = some ad ∧ ad.block < B ∧ xs[k]? = some u ∧ w.cell? (ad.add k) = some u := by
 rcases h with rfl | ⟨ad, e, hb, hc⟩
 ·simp at hk
 ·exact ⟨ad, xs[k], e, hb, List.getElem?_eq_getElem hk, hc k _ (List.getElem?_eq_getElem hk)⟩
theorem Run.keep (h : Run w B A xs) (hk : ∀ p : Addr, p.block < B → w'.cell? p = w.cell? p) : Run w' B A xs := by
 rcases h with h | ⟨ad, e, hb, hc⟩
 ·exact .inl h
 ·exact .inr ⟨ad, e, hb, fun j u hu => (hk _ (by rw [add_block]; exact hb)).trans (hc j u hu)⟩
theorem Run.more (h : Run w B A xs) (hB : B ≤ B') : Run w B' A xs := by
 rcases h with h | ⟨ad, e, hb, hc⟩
 ·exact .inl h
 ·exact .inr ⟨ad, e, by omega, hc⟩
theorem Run.below (h : Run w B A xs) (hb : Below B w w') : Run w' B A xs := h.keep fun _ hp => hb.cell hp
theorem Run.drew (h : Run w B A xs) : Run w.drew B A xs := h
theorem Run.drewN (h : Run w B A xs) (k : Nat) : Run (w.drewN k) B A xs := h
theorem Run.cut (h : Run w B A xs) {k cap : Nat} (hc : xs.length ≤ cap) :
  Run w B (if cap = k then A else A.map (·.add k)) (xs.drop k) := by
 rcases h with rfl | ⟨ad, rfl, hb, hcell⟩
 ·exact .inl (by simp)
 ·by_cases hk : xs.length ≤ k
  ·exact .inl (by simp [hk])
  ·rw [if_neg (by omega)]
   refine .inr ⟨ad.add k, rfl, by rw [add_block]; exact hb, fun j u hu => ?_⟩
   rw [add_add']
   exact hcell _ u (by rw [← hu, List.getElem?_drop])
theorem Run.take (h : Run w B A xs) (k : Nat) : Run w B A (xs.take k) := by
 rcases h with rfl | ⟨ad, rfl, hb, hcell⟩
 ·exact .inl (by simp)
 ·refine .inr ⟨ad, rfl, hb, fun j u hu => hcell j u ?_⟩
  rw [List.getElem?_take] at hu
  split at hu
  ·exact hu
  ·cases hu
theorem Run.of_own {base size n : Nat} {e : TypeId} {c : Nat} (h : w.ownsRow base e size (.slice A n c) n xs) : Run w w.heap.size A xs := by
 by_cases hn : n = 0
 ·have := h.1; rw [hn] at this; exact .inl (List.eq_nil_of_length_eq_zero (by simpa using this))
 ·obtain ⟨g, cap, hv, _, hlt⟩ := h.form (by omega)
  have hA : A = some ⟨g, 0, none⟩ := by injection hv
  subst hA
  exact .inr ⟨_, rfl, hlt, h.cells (g := g) rfl⟩
end
def iv (l : List Int) : List Value := l.map (Value.int .i64)
def gi (l : List Int) (k : Nat) : Int := l.getD k 0
theorem gi_get {l : List Int} {k : Nat} (h : k < l.length) : gi l k = l[k] := by simp [gi, h]
def I64s (l : List Int) : Prop := ∀ x ∈ l, -9223372036854775808 ≤ x ∧ x ≤ 9223372036854775807
def Ints (w : World) (B : Nat) (A : Option Addr) (n : Nat) (l : List Int) : Prop := n = l.length ∧ I64s l ∧ Run w B A (iv l)
section
variable {w w' : World} {B B' n : Nat} {A : Option Addr} {l : List Int}
theorem Ints.at_ {k : Nat} (h : Ints w B A n l) (hk : k < n) : ∃ ad, A = some ad ∧ ad.block < B ∧ w.cell? (ad.add k) = some (.int .i64 (gi l k)) := by
 obtain ⟨rfl, _, hr⟩ := h
 obtain ⟨ad, u, e, hb, hx, hc⟩ := hr.at_ (k := k) (by simpa [iv] using hk)
 refine ⟨ad, e, hb, ?_⟩
 rw [hc, ← hx]
 simp [iv, hk, gi]
theorem Ints.len (h : Ints w B A n l) : l.length = n := h.1.symm
theorem Ints.bounds (h : Ints w B A n l) (k : Nat) : -9223372036854775808 ≤ gi l k ∧ gi l k ≤ 9223372036854775807 := by
 unfold gi
 by_cases hk : k < l.length
 ·have := h.2.1 (l[k]) (List.getElem_mem hk)
  simpa [List.getD_eq_getElem?_getD, List.getElem?_eq_getElem hk] using this
 ·rw [List.getD_eq_getElem?_getD, List.getElem?_eq_none (by omega)]; simp
theorem Ints.below (h : Ints w B A n l) (hb : Below B w w') : Ints w' B A n l := ⟨h.1, h.2.1, h.2.2.below hb⟩
theorem Ints.more (h : Ints w B A n l) (hB : B ≤ B') : Ints w B' A n l := ⟨h.1, h.2.1, h.2.2.more hB⟩
theorem Ints.drewN (h : Ints w B A n l) (k : Nat) : Ints (w.drewN k) B A n l := h
theorem Ints.nil_ : Ints w B A 0 [] := ⟨rfl, (fun x hx => by cases hx), .inl rfl⟩
end
theorem heap_lt {w : World} {b : Nat} {o : Obj} (h : w.heap[b]? = some o) : b < w.heap.size := (Array.getElem?_eq_some_iff.1 h).1
theorem ownsRow_block {w w' : World} {base : Nat} {e : TypeId} {size : Nat} {v : Value} {n : Nat} {xs : List Value} (h : w.ownsRow base e size v n xs) (hb : ∀ b, v.ownBlock = some b → w'.heap[b]? = w.heap[b]?) : w'.ownsRow base e size v n xs := by
 refine ⟨h.1, ?_⟩
 rcases h.2 with hn | ⟨g, cap, cur, rfl, hbb, hg, rest⟩
 ·exact .inl hn
 ·exact .inr ⟨g, cap, cur, rfl, hbb, (hb g rfl).trans hg, rest⟩
theorem int_info : (Tryz.prog.info? 3).map (fun i => (i.zero, i.size, i.bytes)) = some (some (.int .i64 0), 1, 8) := by kernel_rfl
theorem I64s.snoc {l : List Int} (h : I64s l) {x : Int} (hx : -9223372036854775808 ≤ x ∧ x ≤ 9223372036854775807) : I64s (l ++ [x]) := by
 intro y hy
 rcases List.mem_append.1 hy with h1 | h1
 ·exact h y h1
 ·rw [List.mem_singleton] at h1; subst h1; exact hx
theorem iv_snoc (l : List Int) (x : Int) : iv (l ++ [x]) = iv l ++ [.int .i64 x] := by simp [iv]
def OwnInts (w : World) (B : Nat) (v : Value) (acc : List Int) : Prop := w.ownsRow B 3 1 v acc.length (iv acc) ∧ I64s acc
theorem OwnInts.nil_ (w : World) (B : Nat) : OwnInts w B (.slice none 0 0) [] := ⟨World.ownsRow_nil _ _ _ _, fun x hx => by cases hx⟩
theorem OwnInts.ints {w : World} {B : Nat} {v : Value} {acc : List Int} (h : OwnInts w B v acc) : ∃ A c, v = .slice A acc.length c ∧ acc.length ≤ c ∧ c ≤ maxLen ∧ Ints w w.heap.size A acc.length acc := by
 rcases h.1.2 with ⟨rfl, hn⟩ | ⟨g, cap, cur, rfl, hb, hg, h1, h2, h3, h4⟩
 ·rw [hn]
  have : acc = [] := List.eq_nil_of_length_eq_zero hn
  subst this
  exact ⟨none, 0, rfl, Nat.le_refl _, by simp, Ints.nil_⟩
 ·exact ⟨_, cap, rfl, h1, h2, rfl, h.2, Run.of_own h.1⟩
theorem OwnInts.alloc {w : World} {B : Nat} {v : Value} {acc : List Int} (h : OwnInts w B v acc) (o : Obj) : OwnInts (w.alloc o) B v acc := ⟨h.1.alloc o, h.2⟩
theorem OwnInts.base {w : World} {B : Nat} {v : Value} {acc : List Int} (h : OwnInts w B v acc) : ∀ k, v.ownBlock = some k → B ≤ k := fun k hk => (h.1.lt k hk).1
theorem OwnInts.block {w w' : World} {B : Nat} {v : Value} {acc : List Int} (h : OwnInts w B v acc) (hb : ∀ b, v.ownBlock = some b → w'.heap[b]? = w.heap[b]?) : OwnInts w' B v acc := ⟨ownsRow_block h.1 hb, h.2⟩
theorem OwnInts.more {w : World} {B B' : Nat} {v : Value} {acc : List Int} (h : OwnInts w B v acc) (hB : B' ≤ B) : OwnInts w B' v acc := by
 obtain ⟨⟨h0, h1⟩, h2⟩ := h
 refine ⟨⟨h0, ?_⟩, h2⟩
 rcases h1 with h1 | ⟨g, cap, cur, e, hb, r⟩
 ·exact .inl h1
 ·exact .inr ⟨g, cap, cur, e, by omega, r⟩
theorem wpList_push {ops : Array Oper} {rest : List Oper} {o : Oper} {a : Act} {W : World} {Q : Exit → Act → World → Prop} {B : Nat} {y : Int} {v : Value} {acc : List Int} (hown : OwnInts W B v acc) (hB : B ≤ W.heap.size)
  (hy : -9223372036854775808 ≤ y ∧ y ≤ 9223372036854775807) (hlen : acc.length < 1099511627776) (hgd : o.guard = none) (s x : Operand) (t : TypeId) (c : Nat)
  (ho : o.op = .call { callee := .builtin .append, args := #[s, x], argTypes := #[t, t] }) (ht : Tryz.prog.underlying t = some (.slice 3))
  (hs : a.eval s = v) (hx : a.eval x = .slice (some ⟨W.heap.size, 0, none⟩) 1 c)
  (h : ∀ v' w', OwnInts w' B v' (acc ++ [y]) → W.grownBy w' v.ownBlock → (v'.ownBlock = v.ownBlock ∨ ∃ k, v'.ownBlock = some k ∧ W.heap.size ≤ k) → wpList Tryz.prog ops Q rest (a.put o.dst v') w') :
  wpList Tryz.prog ops Q (o :: rest) a (W.alloc (.cells #[.int .i64 y] 3)) := by
 obtain ⟨i0, hi, hz0, hz1, hz2⟩ := info_parts int_info
 refine wpList_append_own_at _ hgd s x t ho B 3 i0 _ 1 8 ht hi hz0 hz1 hz2 rfl (by omega) v acc.length (iv acc) hs (hown.alloc _).1 ⟨W.heap.size, 0, none⟩ 1 c [.int .i64 y] hx rfl (cell_one_new _ _ _) ?_ (by simp only [maxLen]; omega) (by omega) (by simp; omega) ?_
 ·intro u hu; simp at hu; subst hu; rfl
 ·intro v' w' h1 h2 _ h4
  refine h v' w' ⟨?_, hown.2.snoc hy⟩ ?_ ?_
  ·rw [iv_snoc]; simpa using h1
  ·have h5 := World.grownBy_alloc W (.cells #[.int .i64 y] 3) v.ownBlock
   exact ⟨h2.os.trans h5.os, h2.tape.trans h5.tape, h2.output.trans h5.output, Nat.le_trans h5.size h2.size, fun k hk hne => (h2.block k (by simp; omega) hne).trans (h5.block k hk hne)⟩
  ·rcases h4 with h4 | h4
   ·exact .inl h4
   ·exact .inr ⟨_, h4, by simp⟩
structure Off (F : Nat → Prop) (w w' : World) : Prop where
 os : w'.os = w.os
 tape : w'.tape = w.tape
 output : w'.output = w.output
 size : w.heap.size ≤ w'.heap.size
 block : ∀ k, k < w.heap.size → ¬ F k → w'.heap[k]? = w.heap[k]?
namespace Off
variable {F G : Nat → Prop} {a b c w w' : World}
theorem refl (F : Nat → Prop) (w : World) : Off F w w := ⟨rfl, rfl, rfl, Nat.le_refl _, fun _ _ _ => rfl⟩
theorem trans (h : Off F a b) (k : Off F b c) : Off F a c :=
 ⟨k.os.trans h.os, k.tape.trans h.tape, k.output.trans h.output, Nat.le_trans h.size k.size, fun i hi hF => (k.block i (Nat.lt_of_lt_of_le hi h.size) hF).trans (h.block i hi hF)⟩
theorem mono (h : Off F a b) (hF : ∀ k, k < a.heap.size → F k → G k) : Off G a b := ⟨h.os, h.tape, h.output, h.size, fun i hi hn => h.block i hi fun hf => hn (hF i hi hf)⟩
theorem andThen (h : Off F a b) (k : Off G b c) (hG : ∀ i, i < a.heap.size → G i → F i) : Off F a c :=
 ⟨k.os.trans h.os, k.tape.trans h.tape, k.output.trans h.output, Nat.le_trans h.size k.size, fun i hi hF => (k.block i (Nat.lt_of_lt_of_le hi h.size) fun hg => hF (hG i hi hg)).trans (h.block i hi hF)⟩
theorem alloc (h : Off F a b) (o : Obj) : Off F a (b.alloc o) :=
 h.andThen (G := fun _ => False) ⟨rfl, rfl, rfl, by simp, fun k hk _ => heap_alloc_old b o hk⟩ fun _ _ h => h.elim
theorem setCell (h : Off F a b) {p : Addr} (hp : F p.block ∨ a.heap.size ≤ p.block) (u : Value) : Off F a (b.setCell p u) :=
 h.andThen (G := fun k => k = p.block) ⟨rfl, rfl, rfl, by simp [World.setCell], fun k hk hn => heap_setCell_other b p k u hn⟩ fun i hi e => by subst e; rcases hp with h | h; exact h; omega
theorem drew (h : Off F a b) : Off F a b.drew := ⟨h.os, h.tape, h.output, h.size, h.block⟩
theorem drewN (h : Off F a b) (n : Nat) : Off F a (b.drewN n) := ⟨h.os, h.tape, h.output, h.size, h.block⟩
theorem grown (h : Off F a b) {row : Option Nat} (hg : b.grownBy c row) (hr : ∀ k, row = some k → F k ∨ a.heap.size ≤ k) : Off F a c :=
 h.andThen (G := fun k => row = some k) ⟨hg.os, hg.tape, hg.output, hg.size, fun k hk hn => hg.block k hk fun e => hn e.symm⟩ fun i hi e => by rcases hr i e with h | h; exact h; omega
theorem below {B : Nat} (h : Off F a b) (hB : B ≤ a.heap.size) (hF : ∀ k, F k → B ≤ k) : Below B a b :=
 ⟨h.os, h.tape, h.output, h.size, fun k hk => h.block k (by omega) fun hf => by have := hF k hf; omega⟩
end Off
def ba (l : List UInt8) : ByteArray := ⟨l.toArray⟩
theorem ba_list (l : List UInt8) : (ba l).data.toList = l := rfl
theorem ba_eq (s : ByteArray) : ba s.data.toList = s := rfl
theorem ba_size (l : List UInt8) : (ba l).size = l.length := by unfold ba; simp [ByteArray.size]
theorem ba_toList (l : List UInt8) : (ba l).toList = l := by rw [ByteArray.toList_eq]; rfl
theorem ba_inj {a b : List UInt8} : ba a = ba b ↔ a = b := ⟨fun h => by rw [← ba_list a, h, ba_list], fun h => by rw [h]⟩
theorem ba_get (l : List UInt8) (k : Nat) (h : k < (ba l).size) : (ba l)[k] = l[k]'(by rw [← ba_size]; exact h) := rfl
theorem ba_drop (l : List UInt8) (k : Nat) : (ba l).extract k (ba l).size = ba (l.drop k) := by
 rw [ba_size]; unfold ba; apply ByteArray.ext; simp
 exact List.take_of_length_le (by simp)
theorem ba_cut (l : List UInt8) (i j : Nat) : (ba l).extract i j = ba ((l.take j).drop i) := by
 unfold ba; apply ByteArray.ext; simp [List.extract_eq_take_drop, List.drop_take]
theorem ba_append (a b : List UInt8) : ba a ++ ba b = ba (a ++ b) := by unfold ba; apply ByteArray.ext; simp
end Go.Proofs.YthidbmeaccpjdaaGreatDoor
end
namespace Go.Proofs.YthidbmeaccpjdaaGreatDoor
open Go.RowKit
set_option linter.unusedVariables false
set_option maxHeartbeats 4000000
def onceW (b : Nat) (w2 : World) : World := (w2.drew.setCell ⟨b, 0, none⟩ (.int .u32 1)).setCell ⟨b, 1, none⟩ (.int .i32 0)
set_option maxRecDepth 100000 in
theorem doSlow_any (b : Nat) (F : Nat) (w : World) (K : World → Prop)
  (h0 : w.cell? ⟨b, 0, none⟩ = some (.int .u32 0)) (h1 : w.cell? ⟨b, 1, none⟩ = some (.int .i32 0)) (f0 : w.frozen? ⟨b, 0, none⟩ = false) (f1 : w.frozen? ⟨b, 1, none⟩ = false)
  (hf : Calls Tryz.prog 133 #[.pointer (some ⟨b, 0, none⟩)] (w.setCell ⟨b, 1, none⟩ (.int .i32 1)) fun e w2 => e = .returned (.tuple #[]) ∧ K w2)
  (hK : ∀ w2, K w2 → w2.cell? ⟨b, 0, none⟩ = some (.int .u32 0) ∧ w2.cell? ⟨b, 1, none⟩ = some (.int .i32 1) ∧ w2.frozen? ⟨b, 0, none⟩ = false ∧ w2.frozen? ⟨b, 1, none⟩ = false) :
  Calls Tryz.prog 186 #[.pointer (some ⟨b, 0, none⟩), .func (.func 133) #[.pointer (some ⟨b, 0, none⟩)] #[]] w fun e w' => e = .returned (.tuple #[]) ∧ ∃ w2, K w2 ∧ w' = onceW b w2 := by
 have hl := run_call_load (P := Tryz.prog) Tryz.func230 (by kernel_rfl) (by kernel_rfl) (by kernel_rfl) .u32 (by kernel_rfl) (w := w.setCell ⟨b, 1, none⟩ (.int .i32 1)) (a := ⟨b, 0, none⟩) (x := 0) ((World.cell?_setCell_other _ ⟨b, 1, none⟩ ⟨b, 0, none⟩ _ (by simp)).trans h0)
 have hnot : ∀ (x : Bool) (w : World), (Op.unary .not (.bool x)).run Tryz.prog w = .ok (.bool (!x)) w := fun _ _ => rfl
 go_enter_defers Tryz.func186, Tryz.ntmps186
 go_wp2_with fail
 refine (lock_free ⟨b, 1, none⟩ _ h1 f1).mono ?_
 rintro e w' ⟨rfl, rfl⟩
 go_wp2_with (first | (go_at_call 133; refine hf.mono ?_; rintro e w2 ⟨rfl, hk⟩) | (go_at_call 185; go_in))
 obtain ⟨k0, k1, z0, z1⟩ := hK w2 hk
 refine leaves_cons (f := 233) (args := #[.pointer (some ⟨b, 0, none⟩), .bool true]) (by simp) (by simp [go_sem]) ?_
 refine (store_deferred ⟨b, 0, none⟩ (.int .u32 0) .returning _ k0 z0).mono ?_
 rintro e u' w'' ⟨rfl, rfl, rfl⟩
 refine leaves_cons (f := 232) (args := #[.pointer (some ⟨b, 1, none⟩)]) (by simp [settle]) (by simp [go_sem]) ?_
 refine (unlock_deferred ⟨b, 1, none⟩ _ _ ?_ (by simp [z1])).mono ?_
 ·refine (World.cell?_setCell_other _ ⟨b, 0, none⟩ ⟨b, 1, none⟩ _ (by simp)).trans ?_
  rw [World.cell?_drew]
  exact k1
 rintro e u' w'' ⟨rfl, rfl, rfl⟩
 simp [Leaves, settle, results, Tryz.results186]
 exact ⟨w2, hk, rfl⟩
set_option maxRecDepth 100000 in
theorem onceDo_any (b : Nat) (w : World) (K : World → Prop)
  (h0 : w.cell? ⟨b, 0, none⟩ = some (.int .u32 0)) (h1 : w.cell? ⟨b, 1, none⟩ = some (.int .i32 0)) (f0 : w.frozen? ⟨b, 0, none⟩ = false) (f1 : w.frozen? ⟨b, 1, none⟩ = false)
  (hf : Calls Tryz.prog 133 #[.pointer (some ⟨b, 0, none⟩)] (w.setCell ⟨b, 1, none⟩ (.int .i32 1)) fun e w2 => e = .returned (.tuple #[]) ∧ K w2)
  (hK : ∀ w2, K w2 → w2.cell? ⟨b, 0, none⟩ = some (.int .u32 0) ∧ w2.cell? ⟨b, 1, none⟩ = some (.int .i32 1) ∧ w2.frozen? ⟨b, 0, none⟩ = false ∧ w2.frozen? ⟨b, 1, none⟩ = false) :
  Calls Tryz.prog 132 #[.pointer (some ⟨b, 0, none⟩), .func (.func 133) #[.pointer (some ⟨b, 0, none⟩)] #[]] w fun e w' => e = .returned (.tuple #[]) ∧ ∃ w2, K w2 ∧ w' = onceW b w2 := by
 have hl := run_call_load (P := Tryz.prog) Tryz.func230 (by kernel_rfl) (by kernel_rfl) (by kernel_rfl) .u32 (by kernel_rfl) h0
 have hnot : ∀ (x : Bool) (w : World), (Op.unary .not (.bool x)).run Tryz.prog w = .ok (.bool (!x)) w := fun _ _ => rfl
 go_enter Tryz.func132, Tryz.ntmps132
 go_wp2_with (first | (go_at_call 186; refine (doSlow_any b 0 w K h0 h1 f0 f1 hf hK).mono ?_; rintro e w' ⟨rfl, hw⟩) | (go_at_call 185; go_in))
 go_end0
 exact ⟨rfl, hw⟩
structure Tok where
 kind : Int
 text : List UInt8
deriving DecidableEq
def blankB (c : UInt8) : Bool := c == 9 || c == 10 || c == 13 || c == 32
def specials : List UInt8 := [40, 41, 60, 62, 91, 93, 58, 59, 64, 92, 44, 46, 34]
def atomB (c : UInt8) : Bool := decide (32 < c) && c != 127 && !specials.contains c
def closeP (close : UInt8) : Nat → List UInt8 → Option Nat
 | _, [] => none
 | d, [c] => if c = 92 then none else if c = close ∧ d = 1 then some 1 else none
 | d, c :: x :: r =>
  if c = 92 then (closeP close d r).map (· + 2)
  else if c = close then (if d = 1 then some 1 else (closeP close (d - 1) (x :: r)).map (· + 1))
  else if c = 40 ∧ close = 41 then (closeP close (d + 1) (x :: r)).map (· + 1)
  else (closeP close d (x :: r)).map (· + 1)
def opens (c : UInt8) : Option (Int × UInt8) := if c = 40 then some (3, 41) else if c = 34 then some (2, 34) else if c = 91 then some (5, 93) else none
def frontP : List UInt8 → Int × Nat
 | [] => (7, 0)
 | c :: r =>
  if blankB c = true then (6, ((c :: r).takeWhile blankB).length)
  else match opens c with
   | some (k, z) => (match closeP z 1 r with
    | some n => (k, n + 1)
    | none => (7, r.length + 1))
   | none => if specials.contains c = true then (4, 1) else if atomB c = true then (1, ((c :: r).takeWhile atomB).length) else (7, 1)
theorem closeP_le (close : UInt8) : ∀ (d : Nat) (l : List UInt8) (n : Nat), closeP close d l = some n → 0 < n ∧ n ≤ l.length
 | d, [], n, h => by unfold closeP at h; cases h
 | d, [c], n, h => by
  unfold closeP at h
  split at h
  ·cases h
  ·split at h
   ·injection h with h; subst h; simp
   ·cases h
 | d, c :: x :: r, n, h => by
  unfold closeP at h
  split at h
  ·obtain ⟨m, hm, rfl⟩ := Option.map_eq_some_iff.1 h
   have := closeP_le close d r m hm
   simp only [List.length_cons]; omega
  ·split at h
   ·split at h
    ·injection h with h; subst h; simp
    ·obtain ⟨m, hm, rfl⟩ := Option.map_eq_some_iff.1 h
     have := closeP_le close (d - 1) (x :: r) m hm
     simp only [List.length_cons] at this ⊢; omega
   ·split at h
    ·obtain ⟨m, hm, rfl⟩ := Option.map_eq_some_iff.1 h
     have := closeP_le close (d + 1) (x :: r) m hm
     simp only [List.length_cons] at this ⊢; omega
    ·obtain ⟨m, hm, rfl⟩ := Option.map_eq_some_iff.1 h
     have := closeP_le close d (x :: r) m hm
     simp only [List.length_cons] at this ⊢; omega
theorem frontP_cons (c : UInt8) (r : List UInt8) : frontP (c :: r) = if blankB c = true then (6, ((c :: r).takeWhile blankB).length)
  else match opens c with
   | some (k, z) => (match closeP z 1 r with
    | some n => (k, n + 1)
    | none => (7, r.length + 1))
   | none => if specials.contains c = true then (4, 1) else if atomB c = true then (1, ((c :: r).takeWhile atomB).length) else (7, 1) := rfl
theorem frontP_len {l : List UInt8} (h : l ≠ []) : 0 < (frontP l).2 ∧ (frontP l).2 ≤ l.length := by
 cases l with
 | nil => exact absurd rfl h
 | cons c r =>
  rw [frontP_cons]
  split
  ·rename_i hb
   refine ⟨?_, (List.takeWhile_prefix _).length_le⟩
   rw [List.takeWhile_cons, if_pos hb]; simp
  ·split
   ·split
    ·rename_i n hn
     have := closeP_le _ _ _ _ hn
     simp only [List.length_cons]; omega
    ·simp
   ·split
    ·simp
    ·split
     ·rename_i ha
      refine ⟨?_, (List.takeWhile_prefix _).length_le⟩
      rw [List.takeWhile_cons, if_pos ha]; simp
     ·simp
def scanF : Nat → List UInt8 → List Tok
 | 0, _ => []
 | f + 1, l => if l = [] then [] else ⟨(frontP l).1, l.take (frontP l).2⟩ :: scanF f (l.drop (frontP l).2)
def scanP (l : List UInt8) : List Tok := scanF l.length l
theorem scanF_more : ∀ (f g : Nat) (l : List UInt8), l.length ≤ f → l.length ≤ g → scanF f l = scanF g l
 | 0, 0, l, _, _ => rfl
 | 0, g + 1, l, h, _ => by
  have : l = [] := List.eq_nil_of_length_eq_zero (by omega)
  unfold scanF; rw [if_pos this]
 | f + 1, 0, l, _, h => by
  have : l = [] := List.eq_nil_of_length_eq_zero (by omega)
  conv => lhs; unfold scanF
  rw [if_pos this]; rfl
 | f + 1, g + 1, l, hf, hg => by
  unfold scanF
  by_cases e : l = []
  ·rw [if_pos e, if_pos e]
  ·rw [if_neg e, if_neg e]
   have := (frontP_len e).1
   rw [scanF_more f g (l.drop (frontP l).2) (by rw [List.length_drop]; omega) (by rw [List.length_drop]; omega)]
theorem scanP_cons {l : List UInt8} (h : l ≠ []) : scanP l = ⟨(frontP l).1, l.take (frontP l).2⟩ :: scanP (l.drop (frontP l).2) := by
 have h1 := frontP_len h
 unfold scanP
 cases e : l.length with
 | zero => exact absurd (List.eq_nil_of_length_eq_zero e) h
 | succ n =>
  conv => lhs; unfold scanF
  rw [if_neg h, scanF_more n (l.drop (frontP l).2).length _ (by rw [List.length_drop]; omega) (Nat.le_refl _)]
theorem scanP_nil : scanP [] = [] := rfl
def keepB (t : Tok) : Bool := decide (t.kind ≠ 6) && decide (t.kind ≠ 3)
def bareP (l : List Tok) : List Tok := l.filter keepB
def joinP (l : List Tok) : List UInt8 := l.flatMap (·.text)
def unescP : List UInt8 → List UInt8
 | [] => []
 | [c] => if c = 92 then [] else if c = 10 ∨ c = 13 then [] else [c]
 | c :: x :: r => if c = 92 then x :: unescP r else if c = 10 ∨ c = 13 then unescP (x :: r) else c :: unescP (x :: r)
def meanP (t : Tok) : List UInt8 := if (t.kind ≠ 2 ∧ t.kind ≠ 3) ∨ t.text.length < 2 then t.text else unescP ((t.text.drop 1).take (t.text.length - 2))
def semiB (t : Tok) : Bool := decide (t.kind = 4) && decide (t.text = [59])
def rowsP : List Tok → List (List Tok)
 | [] => [[]]
 | t :: r => if semiB t = true then [] :: rowsP r else match rowsP r with
  | [] => [[t]]
  | a :: b => (t :: a) :: b
theorem rowsP_ne : ∀ l, rowsP l ≠ []
 | [] => by simp [rowsP]
 | t :: r => by
  unfold rowsP
  split
  ·simp
  ·split <;> simp
def bt (l : List UInt8) (i : Nat) : Nat := (l.getD i 0).toNat
theorem bt_lt (l : List UInt8) (i : Nat) : bt l i < 256 := (l.getD i 0).toNat_lt
def uN (l : List UInt8) : Nat × Nat := Lib.decodeN l.length (bt l 0) (bt l 1) (bt l 2) (bt l 3)
theorem get_ba (l : List UInt8) (i : Nat) : (ba l).get! i = l.getD i 0 := by
 unfold ba ByteArray.get!
 simp only [getElem!_def]
 simp
 rfl
theorem uN_at (l : List UInt8) (pos : Nat) : Utf8.decode (ba l) pos = uN (l.drop pos) := by
 rw [Lib.decode_at, ba_size]
 unfold uN bt
 rw [get_ba, get_ba, get_ba, get_ba, List.length_drop]
 have h : ∀ i, (l.drop pos).getD i 0 = l.getD (pos + i) 0 := fun i => by simp [List.getD_eq_getElem?_getD, List.getElem?_drop]
 rw [h, h, h, h]
 rfl
theorem uN_cases (l : List UInt8) (h : l ≠ []) :
  ((uN l).2 = 1 ∧ (bt l 0 < 128 ∧ (uN l).1 = bt l 0 ∨ 128 ≤ bt l 0 ∧ (uN l).1 = 65533)) ∨
  ((uN l).2 = 2 ∧ 2 ≤ l.length ∧ bt l 0 / 32 = 6 ∧ bt l 1 / 64 = 2 ∧ (uN l).1 = bt l 0 % 32 * 64 + bt l 1 % 64 ∧ 128 ≤ (uN l).1) ∨
  ((uN l).2 = 3 ∧ 3 ≤ l.length ∧ bt l 0 / 16 = 14 ∧ bt l 1 / 64 = 2 ∧ bt l 2 / 64 = 2 ∧ (uN l).1 = bt l 0 % 16 * 4096 + bt l 1 % 64 * 64 + bt l 2 % 64 ∧ 2048 ≤ (uN l).1 ∧ ((uN l).1 < 55296 ∨ 57344 ≤ (uN l).1)) ∨
  ((uN l).2 = 4 ∧ 4 ≤ l.length ∧ bt l 0 / 8 = 30 ∧ bt l 1 / 64 = 2 ∧ bt l 2 / 64 = 2 ∧ bt l 3 / 64 = 2 ∧ (uN l).1 = bt l 0 % 8 * 262144 + bt l 1 % 64 * 4096 + bt l 2 % 64 * 64 + bt l 3 % 64 ∧ 65536 ≤ (uN l).1 ∧ (uN l).1 ≤ 1114111) := by
 unfold uN Lib.decodeN
 have b0 := bt_lt l 0
 generalize bt l 0 = x0 at *
 generalize bt l 1 = x1 at *
 generalize bt l 2 = x2 at *
 generalize bt l 3 = x3 at *
 generalize l.length = n at *
 repeat' split
 ·exact .inl ⟨rfl, .inl ⟨by assumption, rfl⟩⟩
 ·exact .inr (.inl ⟨rfl, by omega, by omega, by omega, rfl, by omega⟩)
 ·exact .inl ⟨rfl, .inr ⟨by omega, rfl⟩⟩
 ·exact .inr (.inr (.inl ⟨rfl, by omega, by omega, by omega, by omega, rfl, by omega, by omega⟩))
 ·exact .inl ⟨rfl, .inr ⟨by omega, rfl⟩⟩
 ·exact .inr (.inr (.inr ⟨rfl, by omega, by omega, by omega, by omega, by omega, rfl, by omega, by omega⟩))
 ·exact .inl ⟨rfl, .inr ⟨by omega, rfl⟩⟩
 ·exact .inl ⟨rfl, .inr ⟨by omega, rfl⟩⟩
theorem uN_pos (l : List UInt8) (h : l ≠ []) : 1 ≤ (uN l).2 ∧ (uN l).2 ≤ l.length ∧ (uN l).2 ≤ 4 ∧ (uN l).1 ≤ 1114111 := by
 have hl : 1 ≤ l.length := List.length_pos_iff.2 h
 have := bt_lt l 0; have := bt_lt l 1; have := bt_lt l 2
 rcases uN_cases l h with h1 | h1 | h1 | h1 <;> omega
end Go.Proofs.YthidbmeaccpjdaaGreatDoor
