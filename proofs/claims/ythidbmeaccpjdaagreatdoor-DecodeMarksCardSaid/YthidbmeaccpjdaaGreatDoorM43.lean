/- Layer 14: the state of Parse's closure. -/
import Derived.Test.YthidbmeaccpjdaaGreatDoorM42
import Derived.Test.YthidbmeaccpjdaaGreatDoorM34
section
namespace Go.Proofs.YthidbmeaccpjdaaGreatDoor
open Go.RowKit
set_option linter.unusedVariables false
open Go.RowKit
abbrev PartV := Prt × SliP
def rawQ (q : PartV) : RawP := rawP q.1 q.2
structure PDeep (N : Nat) (ro : Option Nat) (W : World) (q : PartV) : Prop where
 rd : Pars W W.heap.size q.2.1 q.2.2.1 q.1.typ.params
 at_ : ∀ ad, q.2.1 = some ad → N + 4 ≤ ad.block ∧ ad.block < W.heap.size ∧ ro ≠ some ad.block
theorem Pars.keepB {W W' : World} {B n : Nat} {A : Option Addr} {ts : List (List UInt8 × List UInt8)} (h : Pars W B A n ts) (hk : ∀ ad, A = some ad → ad.block < B → W'.heap[ad.block]? = W.heap[ad.block]?) : Pars W' B A n ts := by
 refine ⟨h.1, fun k hkl => ?_⟩
 obtain ⟨ad, e, h1, c0, c1, h5⟩ := h.2 k hkl
 have hb := hk ad e (by rw [add_block] at h1; exact h1)
 have key : ∀ q : Addr, q.block = ad.block → W'.cell? q = W.cell? q := fun q hq => World.cell?_of_block (by rw [hq]; exact hb)
 exact ⟨ad, e, h1, (key _ (add_block _ _)).trans c0, (key ⟨(ad.add (k * 2)).block, _, none⟩ (add_block _ _)).trans c1, h5⟩
structure PKeep (N : Nat) (ro ro' : Option Nat) (W W' : World) : Prop where
 os : W'.os = W.os
 tape : W'.tape = W.tape
 output : W'.output = W.output
 size : W.heap.size ≤ W'.heap.size
 blk : ∀ k, k < W.heap.size → k ≠ N + 1 → k ≠ N + 2 → ro ≠ some k → W'.heap[k]? = W.heap[k]?
 row : ro' = ro ∨ ∃ k, ro' = some k ∧ W.heap.size ≤ k
section
variable {N : Nat} {ro ro1 ro2 : Option Nat} {W W1 W2 W' : World} {s : List UInt8} {ps : List Prt} {n : Nat}
theorem PKeep.refl : PKeep N ro ro W W := ⟨rfl, rfl, rfl, Nat.le_refl _, fun _ _ _ _ _ => rfl, .inl rfl⟩
theorem PKeep.ofBelow (h : Below W.heap.size W W') : PKeep N ro ro W W' := ⟨h.os, h.tape, h.output, h.size, fun k hk _ _ _ => h.block k hk, .inl rfl⟩
theorem PKeep.trans (h : PKeep N ro ro1 W W1) (k : PKeep N ro1 ro2 W1 W2) : PKeep N ro ro2 W W2 := by
 refine ⟨k.os.trans h.os, k.tape.trans h.tape, k.output.trans h.output, Nat.le_trans h.size k.size, fun b hb h1 h2 h3 => ?_, ?_⟩
 ·refine (k.blk b (Nat.lt_of_lt_of_le hb h.size) h1 h2 fun e => ?_).trans (h.blk b hb h1 h2 h3)
  rcases h.row with e1 | ⟨j, e1, hj⟩
  ·rw [e1] at e; exact h3 e
  ·rw [e1] at e; injection e with e; omega
 ·rcases k.row with e | ⟨j, e, hj⟩
  ·rcases h.row with e1 | ⟨i, e1, hi⟩
   ·exact .inl (e.trans e1)
   ·exact .inr ⟨i, e.trans e1, hi⟩
  ·exact .inr ⟨j, e, Nat.le_trans h.size hj⟩
theorem PKeep.below (h : PKeep N ro ro1 W W') (hN : N + 3 < W.heap.size) (hr : ∀ k, ro = some k → N + 4 ≤ k) : Below N W W' :=
 ⟨h.os, h.tape, h.output, h.size, fun k hk => h.blk k (by omega) (by omega) (by omega) fun e => by have := hr k e; omega⟩
structure POut (N : Nat) (s : List UInt8) (ps : List Prt) (n : Nat) (ro : Option Nat) (W : World) : Prop where
 cs : W.heap[N]? = some (.cells #[.string (ba s)] 9 (0, 0))
 cf : W.heap[N + 2]? = some (.cells #[.int .i64 (n : Int)] 3 (0, 0))
 cp : W.heap[N + 3]? = some (.cells #[.func (.func 33) #[] #[.pointer (some ⟨N + 1, 0, none⟩), .pointer (some ⟨N, 0, none⟩), .pointer (some ⟨N + 2, 0, none⟩), .pointer (some ⟨N + 3, 0, none⟩)]] 50 (0, 0))
 ex : ∃ (v : Value) (l : List PartV), W.heap[N + 1]? = some (.cells #[v] 31 (0, 0)) ∧ v.ownBlock = ro ∧ OwnParts W (N + 4) v (l.map rawQ) ∧ l.map Prod.fst = ps ∧ ∀ q ∈ l, PDeep N ro W q
theorem OwnParts.isCells {W : World} {B : Nat} {v : Value} {ts : List RawP} (h : OwnParts W B v ts) {b : Nat} (e : v.ownBlock = some b) : B ≤ b ∧ b < W.heap.size ∧ ∃ o, W.heap[b]? = some o ∧ o.isCells = true := by
 rcases h.row.2 with ⟨rfl, _⟩ | ⟨g, cap, cur, rfl, hb, hg, _⟩
 ·cases e
 ·cases e
  exact ⟨hb, heap_lt hg, _, hg, rfl⟩
theorem POut.ro_ge (h : POut N s ps n ro W) : ∀ k, ro = some k → N + 4 ≤ k := fun k e => by
 obtain ⟨v, rows, _, e1, h1, _⟩ := h.ex
 exact (h1.isCells (e1.trans e)).1
theorem POut.size (h : POut N s ps n ro W) : N + 3 < W.heap.size := heap_lt h.cp
theorem PDeep.keep {q : PartV} (h : PDeep N ro W q) (hk : PKeep N ro ro1 W W') : PDeep N ro1 W' q := by
 refine ⟨(h.rd.keepB fun ad e hl => ?_).more hk.size, fun ad e => ?_⟩
 ·obtain ⟨h1, h2, h3⟩ := h.at_ ad e
  exact hk.blk _ h2 (by omega) (by omega) h3
 ·obtain ⟨h1, h2, h3⟩ := h.at_ ad e
  refine ⟨h1, Nat.lt_of_lt_of_le h2 hk.size, fun e2 => ?_⟩
  rcases hk.row with e3 | ⟨j, e3, hj⟩
  ·rw [e3] at e2; exact h3 e2
  ·rw [e3] at e2; injection e2 with e2; omega
theorem POut.below (h : POut N s ps n ro W) (hb : Below W.heap.size W W') : POut N s ps n ro W' := by
 obtain ⟨c0, c2, c3, v, l, c1, e, h1, h2, h3⟩ := h
 have hh : ∀ k o, W.heap[k]? = some o → W'.heap[k]? = some o := fun k o hk => (hb.block k (heap_lt hk)).trans hk
 exact ⟨hh _ _ c0, hh _ _ c2, hh _ _ c3, v, l, hh _ _ c1, e, h1.below hb, h2, fun q hq => (h3 q hq).keep (PKeep.ofBelow hb)⟩
theorem POut.found (h : POut N s ps n ro W) (m : Nat) : POut N s ps m ro (W.setCell ⟨N + 2, 0, none⟩ (.int .i64 (m : Int))) ∧ PKeep N ro ro W (W.setCell ⟨N + 2, 0, none⟩ (.int .i64 (m : Int))) := by
 have hro := h.ro_ge
 obtain ⟨c0, c2, c3, v, l, c1, e, h1, h2, h3⟩ := h
 have hh : ∀ k, k ≠ N + 2 → (W.setCell ⟨N + 2, 0, none⟩ (.int .i64 (m : Int))).heap[k]? = W.heap[k]? := fun k hk => Go.RowKit.Below.heap_setCell _ _ _ _ hk
 have hk : PKeep N ro ro W (W.setCell ⟨N + 2, 0, none⟩ (.int .i64 (m : Int))) := by
  have hb := (Below.refl (N + 2) W).setCell (p := ⟨N + 2, 0, none⟩) (Nat.le_refl _) (.int .i64 (m : Int))
  exact ⟨hb.os, hb.tape, hb.output, hb.size, fun k _ _ h2 _ => hh k h2, .inl rfl⟩
 refine ⟨⟨(hh _ (by omega)).trans c0, Lib.heap_setCell_same (i := 0) c2 _, (hh _ (by omega)).trans c3, v, l, (hh _ (by omega)).trans c1, e, h1.block fun b hb => hh _ (by have := hro b (e ▸ hb); omega), h2, fun q hq => (h3 q hq).keep hk⟩, hk⟩
theorem POut.push {v v' : Value} {l : List PartV} {q : PartV} (h : POut N s ps n ro W) (hv : W.heap[N + 1]? = some (.cells #[v] 31 (0, 0))) (he : v.ownBlock = ro) (ho : OwnParts W (N + 4) v (l.map rawQ)) (hl : l.map Prod.fst = ps) (hd : ∀ q ∈ l, PDeep N ro W q)
  (hp : OwnParts W' (N + 4) v' (l.map rawQ ++ [rawQ q])) (hg : W.grownBy W' v.ownBlock) (hro : v'.ownBlock = v.ownBlock ∨ ∃ k, v'.ownBlock = some k ∧ W.heap.size ≤ k) (hq : PDeep N ro W q) :
  POut N s (ps ++ [q.1]) n v'.ownBlock (W'.setCell ⟨N + 1, 0, none⟩ v') ∧ PKeep N ro v'.ownBlock W (W'.setCell ⟨N + 1, 0, none⟩ v') := by
 have hsz := h.size
 have hge := h.ro_ge
 have hh : ∀ k, k ≠ N + 1 → (W'.setCell ⟨N + 1, 0, none⟩ v').heap[k]? = W'.heap[k]? := fun k hk => Go.RowKit.Below.heap_setCell _ _ _ _ hk
 have hne : ∀ k, k < W.heap.size → ro ≠ some k → W'.heap[k]? = W.heap[k]? := fun k hk hr => hg.block k hk fun e => hr (by rw [← he, ← e])
 have hlow : ∀ k, k < N + 4 → ro ≠ some k := fun k hk e => by have := hge k e; omega
 have hb := (Below.refl (N + 1) W').setCell (p := ⟨N + 1, 0, none⟩) (Nat.le_refl _) v'
 have hk : PKeep N ro v'.ownBlock W (W'.setCell ⟨N + 1, 0, none⟩ v') :=
  ⟨hb.os.trans hg.os, hb.tape.trans hg.tape, hb.output.trans hg.output, Nat.le_trans hg.size hb.size, fun k h1 h2 h3 h4 => (hh k h2).trans (hne k h1 h4), by rw [← he]; exact hro⟩
 obtain ⟨c0, c2, c3, -⟩ := h
 refine ⟨⟨(hh _ (by omega)).trans ((hne _ (by omega) (hlow _ (by omega))).trans c0), (hh _ (by omega)).trans ((hne _ (by omega) (hlow _ (by omega))).trans c2), (hh _ (by omega)).trans ((hne _ (by omega) (hlow _ (by omega))).trans c3), v', l ++ [q], Lib.heap_setCell_same (i := 0) ((hne _ (by omega) (hlow _ (by omega))).trans hv) _, rfl, ?_, by rw [List.map_append, hl]; rfl, fun r hr => ?_⟩, hk⟩
 ·rw [List.map_append]
  exact hp.block fun b e => hh _ (by have := (hp.isCells e).1; omega)
 ·rcases List.mem_append.1 hr with hr | hr
  ·exact (hd r hr).keep hk
  ·rw [List.mem_singleton] at hr
   subst hr
   exact hq.keep hk
end
end Go.Proofs.YthidbmeaccpjdaaGreatDoor
end
