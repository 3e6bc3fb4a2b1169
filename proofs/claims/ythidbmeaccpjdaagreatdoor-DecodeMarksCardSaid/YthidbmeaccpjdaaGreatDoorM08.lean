/- Rows of pouch/api. Layer 9: strings. The reference of layer 10: the contracts of Scan and Bare. The reference of layer 10: the contract of Value. The library: Replace of a new Replacer: built once, then asked. Layer 9: the build of a Replacer of bytes (printed by gen_hdr. Layer 14: a part in memory; the contracts of fits, Body and Head. -/
import Derived.Test.YthidbmeaccpjdaaGreatDoorM05
import Derived.Test.YthidbmeaccpjdaaGreatDoorM01
import Derived.Test.YthidbmeaccpjdaaGreatDoorM02
import Derived.Test.YthidbmeaccpjdaaGreatDoorM07
import Derived.Test.YthidbmeaccpjdaaGreatDoorM06
import Derived.Test.YthidbmeaccpjdaaGreatDoorM03
import Derived.Test.YthidbmeaccpjdaaGreatDoorM04
section
namespace Go.Proofs.YthidbmeaccpjdaaGreatDoor
open Go.RowKit
set_option linter.unusedVariables false
theorem fld_info : (Tryz.prog.info? 162).map (fun i => (i.zero, i.size, i.bytes)) = some (some (.agg #[.string ByteArray.empty, .string ByteArray.empty, .string ByteArray.empty, .bool false]), 4, 56) := by kernel_rfl
def fldCells (t : Fld) : List Value := [.string (ba (t.name)), .string (ba (t.value)), .string (ba (t.raw)), .bool (t.bad)]
def FldOk (t : Fld) : Prop := True
def Flds (w : World) (B : Nat) (A : Option Addr) (n : Nat) (ts : List (Fld)) : Prop :=
 n = ts.length ∧ ∀ k (hk : k < ts.length), ∃ ad, A = some ad ∧ (ad.add (k * 4)).block < B ∧ w.cell? (ad.add (k * 4)) = some (.string (ba (ts[k].name))) ∧ w.cell? ⟨(ad.add (k * 4)).block, (ad.add (k * 4)).off + 1, none⟩ = some (.string (ba (ts[k].value))) ∧ w.cell? ⟨(ad.add (k * 4)).block, (ad.add (k * 4)).off + 2, none⟩ = some (.string (ba (ts[k].raw))) ∧ w.cell? ⟨(ad.add (k * 4)).block, (ad.add (k * 4)).off + 3, none⟩ = some (.bool (ts[k].bad)) ∧ FldOk ts[k]
section
variable {w w' : World} {B B' n : Nat} {A : Option Addr} {ts : List (Fld)}
theorem Flds.below (h : Flds w B A n ts) (hb : Below B w w') : Flds w' B A n ts := by
 refine ⟨h.1, fun k hk => ?_⟩
 obtain ⟨ad, e, h1, c0, c1, c2, c3, h5⟩ := h.2 k hk
 exact ⟨ad, e, h1, (hb.cell h1).trans c0, (hb.cell (p := ⟨(ad.add (k * 4)).block, _, none⟩) h1).trans c1, (hb.cell (p := ⟨(ad.add (k * 4)).block, _, none⟩) h1).trans c2, (hb.cell (p := ⟨(ad.add (k * 4)).block, _, none⟩) h1).trans c3, h5⟩
theorem Flds.more (h : Flds w B A n ts) (hB : B ≤ B') : Flds w B' A n ts := by
 refine ⟨h.1, fun k hk => ?_⟩
 obtain ⟨ad, e, h1, h2⟩ := h.2 k hk
 exact ⟨ad, e, Nat.lt_of_lt_of_le h1 hB, h2⟩
theorem Flds.nil_ : Flds w B A 0 [] := ⟨rfl, fun k hk => by simp at hk⟩
theorem Flds.len (h : Flds w B A n ts) : ts.length = n := h.1.symm
theorem Flds.cutB {ad : Addr} (h : Flds w B (some ad) n ts) (k : Nat) (hk : k ≤ n) : Flds w B (some (ad.add (k * 4))) (n - k) (ts.drop k) := by
 refine ⟨by rw [List.length_drop, h.len], fun j hj => ?_⟩
 rw [List.length_drop] at hj
 obtain ⟨ad', e, r⟩ := h.2 (k + j) (by omega)
 injection e with e
 subst e
 refine ⟨_, rfl, ?_⟩
 rw [add_add', show k * 4 + j * 4 = (k + j) * 4 by omega, List.getElem_drop]
 exact r
end
structure OwnFlds (w : World) (B : Nat) (v : Value) (ts : List (Fld)) : Prop where
 row : w.ownsRow B 162 4 v ts.length (ts.flatMap fldCells)
 each : ∀ t, t ∈ ts → FldOk t
theorem OwnFlds.nil_ (w : World) (B : Nat) : OwnFlds w B (.slice none 0 0) [] := ⟨World.ownsRow_nil _ _ _ _, fun t h => by cases h⟩
theorem OwnFlds.below {w w' : World} {B : Nat} {v : Value} {ts : List (Fld)} (h : OwnFlds w B v ts) (hb : Below w.heap.size w w') : OwnFlds w' B v ts :=
 ⟨ownsRow_block h.row fun b e => hb.block b (h.row.lt b e).2, h.each⟩
theorem OwnFlds.block {w w' : World} {B : Nat} {v : Value} {ts : List (Fld)} (h : OwnFlds w B v ts) (hb : ∀ b, v.ownBlock = some b → w'.heap[b]? = w.heap[b]?) : OwnFlds w' B v ts := ⟨ownsRow_block h.row hb, h.each⟩
theorem OwnFlds.more {w : World} {B B' : Nat} {v : Value} {ts : List (Fld)} (h : OwnFlds w B v ts) (hB : B' ≤ B) : OwnFlds w B' v ts := by
 obtain ⟨⟨h0, h1⟩, h2⟩ := h
 refine ⟨⟨h0, ?_⟩, h2⟩
 rcases h1 with h1 | ⟨g, cap, cur, e, hb, r⟩
 ·exact .inl h1
 ·exact .inr ⟨g, cap, cur, e, by omega, r⟩
theorem fld_len (ts : List (Fld)) : (ts.flatMap fldCells).length = ts.length * 4 := by induction ts with | nil => rfl | cons a r ih => simp [fldCells] at ih ⊢; omega
theorem fld_get : ∀ (ts : List (Fld)) j (hj : j < ts.length) i (hi : i < 4), (ts.flatMap fldCells)[j * 4 + i]? = (fldCells ts[j])[i]? := fun ts => by
 induction ts with
 | nil => intro j hj; simp at hj
 | cons a r ih =>
  intro j hj i hi
  cases j with
  | zero =>
   simp only [List.flatMap_cons, List.getElem_cons_zero, Nat.zero_mul, Nat.zero_add]
   rw [List.getElem?_append_left (by simp [fldCells]; omega)]
  | succ j =>
   have := ih j (by simpa using hj) i hi
   simp only [List.flatMap_cons, List.getElem_cons_succ]
   rw [List.getElem?_append_right (by simp [fldCells]; omega), show (j + 1) * 4 + i - (fldCells a).length = j * 4 + i by simp [fldCells]; omega]
   exact this
theorem fld_addS (a : Addr) {i : Nat} (hi : i ≠ 0) : a.add i = ⟨a.block, a.off + i, none⟩ := by unfold Addr.add; rw [if_neg hi]
theorem OwnFlds.reads {w : World} {B : Nat} {v : Value} {ts : List (Fld)} (h : OwnFlds w B v ts) : ∃ A c, v = .slice A ts.length c ∧ ts.length ≤ c ∧ c ≤ maxLen ∧ Flds w w.heap.size A ts.length ts := by
 have h0 := h.row
 rcases h0.2 with ⟨rfl, hn⟩ | ⟨g, cap, cur, rfl, hb, hg, q1, q2, q3⟩
 ·have : ts = [] := List.eq_nil_of_length_eq_zero hn
  subst this
  exact ⟨none, 0, rfl, Nat.le_refl _, by simp, Flds.nil_⟩
 ·refine ⟨_, cap, rfl, q1, q2, rfl, fun k hk => ?_⟩
  have hc : ∀ i u, i < 4 → (fldCells ts[k])[i]? = some u → w.cell? ⟨g, k * 4 + i, none⟩ = some u := fun i u hi hu => by
   have := h0.cells (g := g) rfl (k * 4 + i) u (by rw [fld_get ts k hk i hi]; exact hu)
   unfold Addr.add at this
   by_cases e0 : k * 4 + i = 0
   ·rw [if_pos e0] at this; rw [e0]; exact this
   ·rw [if_neg e0] at this; rw [Nat.zero_add] at this; exact this
  have e1 : (Addr.add ⟨g, 0, none⟩ (k * 4)) = ⟨g, k * 4, none⟩ := by
   unfold Addr.add
   split
   ·rename_i e0; rw [e0]
   ·rw [Nat.zero_add]
  refine ⟨⟨g, 0, none⟩, rfl, by rw [add_block]; exact heap_lt hg, ?_, ?_, ?_, ?_, h.each _ (List.getElem_mem hk)⟩
  ·rw [e1]; exact hc 0 _ (by omega) rfl
  ·rw [e1]; exact hc 1 _ (by omega) rfl
  ·rw [e1]; exact hc 2 _ (by omega) rfl
  ·rw [e1]; exact hc 3 _ (by omega) rfl
theorem fld_one (l : List (Fld)) : ∀ u ∈ l.flatMap fldCells, u.oneCell' = true := by
 intro u hu
 obtain ⟨t, _, ht⟩ := List.mem_flatMap.1 hu
 simp only [fldCells, List.mem_cons, List.not_mem_nil, or_false] at ht
 rcases ht with rfl | rfl | rfl | rfl <;> rfl
set_option maxRecDepth 100000 in
theorem run_pushFld {W : World} {B : Nat} {v : Value} {ts : List (Fld)} {x0 : List UInt8} {x1 : List UInt8} {x2 : List UInt8} {x3 : Bool} (hT : OwnFlds W B v ts) (hB : B ≤ W.heap.size) (hf : FldOk (⟨x0, x1, x2, x3⟩ : Fld)) (hlen : ts.length ≤ 1000000000) (c : Nat) (ty : TypeId) :
  ∃ v' w', (Builtin.append_ #[84, 84] ty #[v, .slice (some ⟨W.heap.size, 0, none⟩) 1 c]).run Tryz.prog (W.alloc (.cells #[.string (ba x0), .string (ba x1), .string (ba x2), .bool x3] 162)) = .ok v' w' ∧ OwnFlds w' B v' (ts ++ [(⟨x0, x1, x2, x3⟩ : Fld)]) ∧ W.grownBy w' v.ownBlock := by
 obtain ⟨i0, hi, hz0, hz1, hz2⟩ := info_parts fld_info
 obtain ⟨v', w', hrun, h1, h2, _, h4⟩ := run_append_own_at (P := Tryz.prog) (W.alloc (.cells #[.string (ba x0), .string (ba x1), .string (ba x2), .bool x3] 162)) B 84 ty 162 i0 _ 4 56 Tryz.underlying84 hi hz0 hz1 hz2 rfl (by omega) v ts.length (ts.flatMap fldCells) (World.ownsRow.alloc hT.row _) ⟨W.heap.size, 0, none⟩ 1 c (fldCells (⟨x0, x1, x2, x3⟩ : Fld)) rfl (World.news_of_block (MapKept.heap_alloc W _).1) (fun u hu => fld_one [(⟨x0, x1, x2, x3⟩ : Fld)] u (by simpa using hu)) (by simp only [maxLen]; omega) (by omega) (by simp; omega)
 have h5 := World.grownBy_alloc W (.cells #[.string (ba x0), .string (ba x1), .string (ba x2), .bool x3] 162) v.ownBlock
 refine ⟨v', w', hrun, ⟨by simpa using h1, fun t ht => ?_⟩, ⟨h2.os.trans h5.os, h2.tape.trans h5.tape, h2.output.trans h5.output, Nat.le_trans h5.size h2.size, fun k hk hne => (h2.block k (by simp; omega) hne).trans (h5.block k hk hne)⟩⟩
 rcases List.mem_append.1 ht with ht | ht
 ·exact hT.each t ht
 ·rw [List.mem_singleton] at ht; subst ht; exact hf
theorem wp_pushFld {o : Oper} {a : Act} {K : Act → World → Prop} {W : World} {Q : Exit → Act → World → Prop} {B : Nat} {v : Value} {ts : List (Fld)} {x0 : List UInt8} {x1 : List UInt8} {x2 : List UInt8} {x3 : Bool} (hT : OwnFlds W B v ts) (hB : B ≤ W.heap.size) (hf : FldOk (⟨x0, x1, x2, x3⟩ : Fld))
  (hlen : ts.length ≤ 1000000000) (s y : Operand) (c : Nat)
  (ho : o.op = .call { callee := .builtin .append, args := #[s, y], argTypes := #[84, 84] }) (hs : a.eval s = v) (hx : a.eval y = .slice (some ⟨W.heap.size, 0, none⟩) 1 c)
  (h : ∀ v' w', OwnFlds w' B v' (ts ++ [(⟨x0, x1, x2, x3⟩ : Fld)]) → W.grownBy w' v.ownBlock → K (a.put o.dst v') w') : o.wp Tryz.prog a (W.alloc (.cells #[.string (ba x0), .string (ba x1), .string (ba x2), .bool x3] 162)) K Q := by
 obtain ⟨v', w', hrun, h1, h2⟩ := run_pushFld hT hB hf hlen c o.type
 unfold Oper.wp execOp
 simp only [ho, resolve, invoke, builtin, Sem.run_bind, Sem.run_pure, Result.andThen_ok, List.map_toArray, List.map_cons, List.map_nil, hs, hx, hrun]
 exact h v' w' h1 h2
theorem wpList_pushFld {ops : Array Oper} {rest : List Oper} {o : Oper} {a : Act} {W : World} {Q : Exit → Act → World → Prop} {B : Nat} {v : Value} {ts : List (Fld)} {x0 : List UInt8} {x1 : List UInt8} {x2 : List UInt8} {x3 : Bool} (hT : OwnFlds W B v ts) (hB : B ≤ W.heap.size) (hf : FldOk (⟨x0, x1, x2, x3⟩ : Fld))
  (hlen : ts.length ≤ 1000000000) (hgd : o.guard = none) (s y : Operand) (c : Nat)
  (ho : o.op = .call { callee := .builtin .append, args := #[s, y], argTypes := #[84, 84] }) (hs : a.eval s = v) (hx : a.eval y = .slice (some ⟨W.heap.size, 0, none⟩) 1 c)
  (h : ∀ v' w', OwnFlds w' B v' (ts ++ [(⟨x0, x1, x2, x3⟩ : Fld)]) → W.grownBy w' v.ownBlock → wpList Tryz.prog ops Q rest (a.put o.dst v') w') :
  wpList Tryz.prog ops Q (o :: rest) a (W.alloc (.cells #[.string (ba x0), .string (ba x1), .string (ba x2), .bool x3] 162)) :=
 wpList_plain hgd fun _ hK => wp_pushFld hT hB hf hlen s y c ho hs hx fun v' w' h2 h3 => hK _ _ (h v' w' h2 h3)
theorem Flds.cells {w : World} {B m : Nat} {ad : Addr} {l : List (Fld)} (h : Flds w B (some ad) m l) : ∀ j u, (l.flatMap fldCells)[j]? = some u → w.cell? (ad.add j) = some u := by
 intro j u hu
 have hj : j < l.length * 4 := by have := (List.getElem?_eq_some_iff.1 hu).1; rw [fld_len] at this; exact this
 obtain ⟨k, i, hi, rfl⟩ : ∃ k i, i < 4 ∧ j = k * 4 + i := ⟨j / 4, j % 4, by omega, by omega⟩
 have hk : k < l.length := by omega
 rw [fld_get l k hk i hi] at hu
 obtain ⟨ad', e, _, c0, c1, c2, c3, _⟩ := h.2 k hk
 injection e with e
 subst e
 rw [← add_add']
 match i, hi with
 | 0, _ =>
  have hu' : Value.string (ba (l[k].name)) = u := Option.some.inj hu
  subst hu'
  have e0 : (ad.add (k * 4)).add 0 = ad.add (k * 4) := by unfold Addr.add; rfl
  rw [e0]; exact c0
 | 1, _ =>
  have hu' : Value.string (ba (l[k].value)) = u := Option.some.inj hu
  subst hu'
  rw [fld_addS _ (by decide)]; exact c1
 | 2, _ =>
  have hu' : Value.string (ba (l[k].raw)) = u := Option.some.inj hu
  subst hu'
  rw [fld_addS _ (by decide)]; exact c2
 | 3, _ =>
  have hu' : Value.bool (l[k].bad) = u := Option.some.inj hu
  subst hu'
  rw [fld_addS _ (by decide)]; exact c3
end Go.Proofs.YthidbmeaccpjdaaGreatDoor
end
namespace Go.Proofs.YthidbmeaccpjdaaGreatDoor
open Go.RowKit
set_option linter.unusedVariables false
set_option maxHeartbeats 4000000
def airStrs : List (List UInt8) := [[13], [32], [10], [32]]
structure AirRepAt (w w' : World) (b g c : Nat) : Prop where
 low : w.heap.size ≤ b
 row : RowV w' b 5 (repF 0 0 .nilIface (.slice (some ⟨g, 0, none⟩) 4 c))
 glow : w.heap.size ≤ g
 glt : g < w'.heap.size
 ne : g ≠ b
 strs : ∀ j u, (sv airStrs)[j]? = some u → w'.cell? ((⟨g, 0, none⟩ : Addr).add j) = some u
 bel : Below w.heap.size w w'
def AirRep (w : World) (e : Ending) (w' : World) : Prop := ∃ b g c, e = .returned (.pointer (some ⟨b, 0, none⟩)) ∧ AirRepAt w w' b g c
theorem airrep_fin {w w2 : World} {g c : Nat} (hg : w.heap.size ≤ g) (hg2 : g < w2.heap.size) (hs : ∀ j u, (sv airStrs)[j]? = some u → w2.cell? ((⟨g, 0, none⟩ : Addr).add j) = some u) (hb : Below w.heap.size w w2) :
  AirRep w (.returned (.pointer (some ⟨w2.heap.size, 0, none⟩))) (w2.alloc (.cells #[.int .u32 0, .int .i32 0, .int .u32 0, .nilIface, .slice (some ⟨g, 0, none⟩) 4 c] 146)) := by
 have hsz := hb.size
 refine ⟨_, g, c, rfl, hsz, RowV.made _ _ _ fun j hj => ?_, hg, by simp; omega, by omega, fun j u hu => ?_, hb.alloc hsz _⟩
 ·match j, hj with
  | 0, _ => rfl
  | 1, _ => rfl
  | 2, _ => rfl
  | 3, _ => rfl
  | 4, _ => rfl
 ·have h := hs j u hu
  rw [add_base] at h ⊢
  rw [World.cell?_alloc_past _ _ _ hg2]
  exact h
theorem own_air4 {w2 : World} {B : Nat} {v2 : Value} (h1 : OwnStrs w2 B v2 ([] ++ airStrs)) : ∃ g c, v2 = .slice (some ⟨g, 0, none⟩) 4 c ∧ B ≤ g ∧ g < w2.heap.size ∧ ∀ j u, (sv airStrs)[j]? = some u → w2.cell? ((⟨g, 0, none⟩ : Addr).add j) = some u := by
 have h0 := h1
 rcases h1.2 with ⟨_, hn⟩ | ⟨g, cap, cur, rfl, hb, hg, h5⟩
 ·exact absurd hn (by decide)
 ·exact ⟨g, cap, rfl, hb, heap_lt hg, fun j u hu => World.ownsRow.cells h0 (g := g) rfl j u hu⟩
set_option maxRecDepth 100000 in
theorem airrep_any (X c : Nat) (w : World) (hX : ∀ j u, (sv airStrs)[j]? = some u → w.cell? ((⟨X, 0, none⟩ : Addr).add j) = some u) :
  Calls Tryz.prog 66 #[.slice (some ⟨X, 0, none⟩) 4 c] w (AirRep w) := by
 have HX := Lib.hid hX
 clear hX
 go_enter Tryz.func66, Tryz.ntmps66
 go_wp2_with (at_builtin; go_must (refine wpList_appendStrs (news := airStrs) (ss := []) (OwnStrs.nil_ w w.heap.size) (Nat.le_refl _) (by decide) rfl (.const (.slice none 0 0)) (.tmp 8) 37 ⟨X, 0, none⟩ c rfl Tryz.underlying37 rfl rfl HX.out ?_); intro v2 w2 h1 h2 h3; (obtain ⟨g, c2, hv, hglow, hglt, hst⟩ := own_air4 h1); (subst hv); (have HS := Lib.hid hst); (have HB := Lib.hid ((Below.refl w.heap.size w).grown h2 (Nat.le_refl _) fun q e => by cases e)); clear h1 h2 h3 hst)
 go_ret
 exact airrep_fin hglow hglt HS.out HB.out

theorem inner_eq (l : List UInt8) (h : 2 ≤ l.length) : (ba l).extract 1 ((ba l).size - 1) = ba ((l.drop 1).take (l.length - 2)) := by
 rw [ba_size, ba_cut, List.drop_take]
 rfl
theorem str_fin {w w' : World} {l : List UInt8} {t : ByteArray} (ht : t = ba l) (hb : Below w.heap.size w w') : StrB w l (.returned (.string t)) w' := by
 subst ht
 exact ⟨rfl, hb⟩
theorem ReplAt.kept {B : Nat} {w w' : World} {R : Nat} {f : Nat → Value} {p q s c1 c2 c3 : Nat} (h : ReplAt B w R f p q s c1 c2 c3) (hb : ∀ k, B ≤ k → k < w.heap.size → w'.heap[k]? = w.heap[k]?) : ReplAt B w' R f p q s c1 c2 c3 := by
 obtain ⟨l1, l2, l3, l4⟩ := h.low
 have hs := hb s l4 h.lt
 refine ⟨h.row.kept (hb R l1 h.row.lt), h.list, h.f34, h.f92, h.other, h.r34.kept (hb p l2 h.r34.lt), h.r92.kept (hb q l3 h.r92.lt), ⟨?_, ?_⟩, h.low, ?_⟩
 ·rw [← h.strs.1]
  exact World.cell?_of_block hs
 ·rw [← h.strs.2]
  exact World.cell?_of_block hs
 ·have h2 := h.lt
  rw [Array.getElem?_eq_getElem h2] at hs
  exact heap_lt hs
theorem Repl.kept {B : Nat} {w w' : World} {R : Nat} (h : Repl B w R) (hb : ∀ k, B ≤ k → k < w.heap.size → w'.heap[k]? = w.heap[k]?) : Repl B w' R := by
 obtain ⟨f, p, q, s, c1, c2, c3, hat⟩ := h
 exact ⟨f, p, q, s, c1, c2, c3, hat.kept hb⟩
theorem Repl.lt {B : Nat} {w : World} {R : Nat} (h : Repl B w R) : B ≤ R ∧ R < w.heap.size := by
 obtain ⟨f, p, q, s, c1, c2, c3, hat⟩ := h
 exact ⟨hat.low.1, hat.row.lt⟩
noncomputable def zAir : Array Value := ((Tryz.prog.info? 222).bind (·.zero)).elim #[] (·.cells)
theorem zAir_size : zAir.size = 256 := by kernel_rfl
def isZero8 : Value → Bool
 | .int .u8 0 => true
 | _ => false
theorem isZero8_eq {v : Value} (h : isZero8 v = true) : v = .int .u8 0 := by
 unfold isZero8 at h
 split at h
 ·rfl
 ·cases h
set_option maxRecDepth 100000 in
theorem zAir_all : zAir.toList.all isZero8 = true := by kernel_rfl
theorem zAir_at {i : Nat} (h : i < 256) : zAir[i]? = some (.int .u8 0) := by
 have hs : i < zAir.size := by rw [zAir_size]; exact h
 rw [Array.getElem?_eq_getElem hs]
 have := List.all_eq_true.1 zAir_all zAir[i] (by simp)
 rw [isZero8_eq this]
theorem zAir_agg : ((Tryz.prog.info? 222).bind (·.zero)).elim false (fun z => match z with | .agg _ => true | _ => false) = true := by kernel_rfl
theorem zAir_some : ((Tryz.prog.info? 222).bind (·.zero)).isSome = true := by kernel_rfl
theorem size_air : (Tryz.prog.info? 222).map (·.size) = some 256 := by kernel_rfl
set_option maxRecDepth 100000 in
theorem zAir_one : zAir.all (·.oneCell') = true := by
 rw [Array.all_eq_true]
 intro i hi
 have h := zAir_at (i := i) (by rw [zAir_size] at hi; exact hi)
 rw [Array.getElem?_eq_getElem hi] at h
 injection h with h
 rw [h]
 rfl
set_option maxRecDepth 100000 in
theorem zAir_val (w : World) : (zeroValue 222).run Tryz.prog w = .ok (.agg zAir) w := by
 have h0 := zAir_some
 cases hi : Tryz.prog.info? 222 with
 | none => rw [hi] at h0; cases h0
 | some it =>
  rw [hi] at h0
  cases hz : it.zero with
  | none => simp [hz] at h0
  | some z =>
   have hzz : z = .agg zAir := by
    have h1 := zAir_agg
    simp only [hi, Option.bind_some, hz, Option.elim_some] at h1
    cases z with
    | agg c => simp [zAir, hi, hz, Value.cells]
    | _ => cases h1
   simp [zeroValue, typeInfo, hi, hz, hzz]
set_option maxRecDepth 100000 in
theorem built_air : Tryz.prog.built 222 [] = some zAir := by
 have h0 := zAir_some
 unfold Program.built
 cases hi : Tryz.prog.info? 222 with
 | none => rw [hi] at h0; cases h0
 | some it =>
  rw [hi] at h0
  cases hz : it.zero with
  | none => simp [hz] at h0
  | some z =>
   have hu : Tryz.prog.underlying 222 = some _ := Tryz.underlying222
   have h5 : (Tryz.prog.info? 5).isSome = true := by kernel_rfl
   cases h6 : Tryz.prog.info? 5 with
   | none => rw [h6] at h5; cases h5
   | some i6 => simp [hu, hz, Instr.fill, zAir, hi, h6]
theorem build_air (w : World) : (Instr.build 222 #[]).run Tryz.prog w = .ok (.agg zAir) w := run_build w _ _ _ built_air
theorem store_air (w : World) : (storeCells ⟨w.heap.size, 0, none⟩ zAir.toList 0).run Tryz.prog (w.alloc (.cells zAir 222)) = .ok () (w.alloc (.cells zAir 222)) :=
 run_storeCells_new w _ _ _ (by rw [size_air, zAir_size]) rfl zAir_one
def fillF (k j : Nat) : Value := .int .u8 (if j < k then (j : Int) else 0)
def airN (a b : Bool) (j : Nat) : Nat := if j = 10 ∧ a = true then 32 else if j = 13 ∧ b = true then 32 else j
def airF (a b : Bool) (j : Nat) : Value := .int .u8 (airN a b j : Nat)
structure ASt (w : World) (f : Nat → Value) (wr : World) : Prop where
 row : RowV wr w.heap.size 256 f
 bel : Below w.heap.size w wr
theorem ASt.start (w : World) : ASt w (fillF 0) (w.alloc (.cells zAir 222)) := ⟨RowV.made _ _ _ fun j hj => by rw [zAir_at hj]; rfl, (Below.refl _ _).alloc (Nat.le_refl _) _⟩
theorem ASt.step {w wr : World} {k : Nat} (h : ASt w (fillF k) wr) (hk : k < 256) : ASt w (fillF (k + 1)) (wr.setCell ⟨w.heap.size, k, none⟩ (.int .u8 (k : Int))) := by
 refine ⟨(h.row.set hk _).congr fun j hj => ?_, h.bel.setCell (Nat.le_refl _) _⟩
 show (if j = k then _ else fillF k j) = _
 unfold fillF
 by_cases e : j = k
 ·subst e
  rw [if_pos rfl, if_pos (by omega)]
 ·rw [if_neg e]
  congr 1
  by_cases e2 : j < k
  ·rw [if_pos e2, if_pos (by omega)]
  ·rw [if_neg e2, if_neg (by omega)]
theorem ASt.full {w wr : World} (h : ASt w (fillF 256) wr) : ASt w (airF false false) wr := ⟨h.row.congr fun j hj => by
 unfold fillF airF airN
 rw [if_pos hj, if_neg (by simp), if_neg (by simp)], h.bel⟩
theorem ASt.lf {w wr : World} (h : ASt w (airF false false) wr) : ASt w (airF true false) (wr.setCell ⟨w.heap.size, 10, none⟩ (.int .u8 32)) := by
 refine ⟨(h.row.set (k := 10) (by omega) _).congr fun j hj => ?_, h.bel.setCell (Nat.le_refl _) _⟩
 show (if j = 10 then _ else airF false false j) = _
 unfold airF airN
 by_cases e : j = 10
 ·subst e; rfl
 ·rw [if_neg e]
  simp [e]
theorem ASt.cr {w wr : World} (h : ASt w (airF true false) wr) : ASt w (airF true true) (wr.setCell ⟨w.heap.size, 13, none⟩ (.int .u8 32)) := by
 refine ⟨(h.row.set (k := 13) (by omega) _).congr fun j hj => ?_, h.bel.setCell (Nat.le_refl _) _⟩
 show (if j = 13 then _ else airF true false j) = _
 unfold airF airN
 by_cases e : j = 13
 ·subst e; rfl
 ·rw [if_neg e]
  simp [e]
def AirBuilt (w : World) (e : Ending) (w' : World) : Prop := ∃ R, e = .returned (.iface 223 (.pointer (some ⟨R, 0, none⟩))) ∧ RowV w' R 256 (airF true true) ∧ w.heap.size ≤ R ∧ Below w.heap.size w w'
theorem air_cells {w : World} {g : Nat} (h : ∀ j u, (sv airStrs)[j]? = some u → w.cell? ((⟨g, 0, none⟩ : Addr).add j) = some u) :
  w.cell? ⟨g, 0, none⟩ = some (.string ⟨#[13]⟩) ∧ w.cell? ⟨g, 1, none⟩ = some (.string ⟨#[32]⟩) ∧ w.cell? ⟨g, 2, none⟩ = some (.string ⟨#[10]⟩) ∧ w.cell? ⟨g, 3, none⟩ = some (.string ⟨#[32]⟩) := by
 have h0 := h 0 _ rfl
 have h1 := h 1 _ rfl
 have h2 := h 2 _ rfl
 have h3 := h 3 _ rfl
 rw [add_base] at h0 h1 h2 h3
 exact ⟨h0, h1, h2, h3⟩
set_option maxRecDepth 100000 in
theorem airbuild_any (b g c : Nat) (w : World) (h4 : w.cell? ⟨b, 4, none⟩ = some (.slice (some ⟨g, 0, none⟩) 4 c)) (hg : g < w.heap.size) (hs : ∀ j u, (sv airStrs)[j]? = some u → w.cell? ((⟨g, 0, none⟩ : Addr).add j) = some u) :
  Calls Tryz.prog 187 #[.pointer (some ⟨b, 0, none⟩)] w (AirBuilt w) := by
 obtain ⟨s0, s1, s2, s3⟩ := air_cells hs
 have hz := zAir_val
 have hbu := build_air
 have hst := store_air
 have HST := Lib.hid (ASt.start w)
 clear hs
 go_enter Tryz.func187, Tryz.ntmps187
 go_wp2
 go_loop [4, 5] (fun a i => a = .bool true ∧ (i = .int .i64 0 ∨ i = .int .i64 2 ∨ i = .int .i64 4)) (fun _ i => 4 - (intOf i).toNat)
 case atStart => exact ⟨rfl, .inl rfl⟩
 case round =>
  rcases hrel with ⟨rfl, rfl | rfl | rfl⟩
  ·go_wp2
   go_round
   case rel => exact ⟨rfl, .inr (.inl rfl)⟩
   case measure => simp [intOf]
  ·go_wp2
   go_round
   case rel => exact ⟨rfl, .inr (.inr rfl)⟩
   case measure => simp [intOf]
  ·go_wp2
   clear hz hbu hst
   go_loopw [7, 61] (fun y i wr => ∃ (k : Nat) (z : Value), y = z ∧ k ≤ 256 ∧ i = .int .i64 (k : Int) ∧ Hid (ASt w (fillF k) wr)) (fun _ i _ => 256 - (intOf i).toNat)
   case atStart => exact ⟨0, _, rfl, by omega, rfl, HST⟩
   case round =>
    obtain ⟨k, z, rfl, hk, rfl, HR⟩ := hrel
    by_cases hlt : k < 256
    ·have hk2 : (k : Int) < 256 := by omega
     have hk0 : (0 : Int) ≤ (k : Int) := by omega
     have hw : IntKind.u8.wrap (k : Int) = (k : Int) := IntWalk.u8_in _ ⟨by omega, by omega⟩
     have hfree := HR.out.row.free k
     have hcell := HR.out.row.cell hlt
     have HN := Lib.hid (HR.out.step hlt)
     clear HR
     go_wp2
     go_roundw
     case rel => exact ⟨k + 1, _, rfl, by omega, by go_num, HN⟩
     case measure => simp [intOf] <;> omega
    ·obtain rfl : k = 256 := by omega
     have HA := Lib.hid HR.out.full
     clear HR
     go_wp2
     go_loopw [8, 9, 10] (fun i o n wr => ∃ y z : Value, o = y ∧ n = z ∧ (i = .int .i64 2 ∧ Hid (ASt w (airF false false) wr) ∨ i = .int .i64 0 ∧ Hid (ASt w (airF true false) wr) ∨ i = .int .i64 (-2) ∧ Hid (ASt w (airF true true) wr))) (fun i _ _ _ => (intOf i + 2).toNat)
     case atStart => exact ⟨_, _, rfl, rfl, .inl ⟨rfl, HA⟩⟩
     case round =>
      obtain ⟨y, z, rfl, rfl, hr⟩ := hrel
      rcases hr with ⟨rfl, HR⟩ | ⟨rfl, HR⟩ | ⟨rfl, HR⟩
      ·have t2 := (HR.out.bel.cell (p := ⟨g, 2, none⟩) hg).trans s2
       have t3 := (HR.out.bel.cell (p := ⟨g, 3, none⟩) hg).trans s3
       have hg10 : ((⟨#[10]⟩ : ByteArray)[0]'(by decide)).toNat = 10 := rfl
       have hg32 : ((⟨#[32]⟩ : ByteArray)[0]'(by decide)).toNat = 32 := rfl
       have hfree := HR.out.row.free 10
       have hcell := HR.out.row.cell (j := 10) (by omega)
       have HN := Lib.hid HR.out.lf
       clear HR
       go_wp2
       go_roundw
       case rel => exact ⟨_, _, rfl, rfl, .inr (.inl ⟨rfl, HN⟩)⟩
       case measure => simp [intOf]
      ·have t0 := (HR.out.bel.cell (p := ⟨g, 0, none⟩) hg).trans s0
       have t1 := (HR.out.bel.cell (p := ⟨g, 1, none⟩) hg).trans s1
       have hg13 : ((⟨#[13]⟩ : ByteArray)[0]'(by decide)).toNat = 13 := rfl
       have hg32 : ((⟨#[32]⟩ : ByteArray)[0]'(by decide)).toNat = 32 := rfl
       have hfree := HR.out.row.free 13
       have hcell := HR.out.row.cell (j := 13) (by omega)
       have HN := Lib.hid HR.out.cr
       clear HR
       go_wp2
       go_roundw
       case rel => exact ⟨_, _, rfl, rfl, .inr (.inr ⟨rfl, HN⟩)⟩
       case measure => simp [intOf]
      ·go_wp2
       go_ret
       exact ⟨_, rfl, HR.out.row, Nat.le_refl _, HR.out.bel⟩
def prtV (p : Prt) (A : Option Addr) (n c : Nat) : Value := .agg #[.int .i64 p.up, .int .i64 p.depth, .int .i64 p.start, .int .i64 p.body, .int .i64 p.stop, .string (ba p.typ.kind), .string (ba p.typ.sub), .slice A n c, .string (ba p.code)]
def prtC (p : Prt) (A : Option Addr) (n c : Nat) : Obj := .cells #[.int .i64 p.up, .int .i64 p.depth, .int .i64 p.start, .int .i64 p.body, .int .i64 p.stop, .string (ba p.typ.kind), .string (ba p.typ.sub), .slice A n c, .string (ba p.code)] 26
theorem fitsP_eq {n : Nat} {p : Prt} {f b t : Int} (hf : p.start = f) (hb : p.body = b) (ht : p.stop = t) {x : Bool} (h : x = (decide (0 ≤ f) && decide (f ≤ b) && decide (b ≤ t) && decide (t ≤ n))) : fitsP n p = x := by
 subst hf hb ht h
 unfold fitsP
 rw [Bool.eq_iff_iff]
 simp only [Bool.and_eq_true, decide_eq_true_iff]
 omega
set_option maxRecDepth 100000 in
theorem fits_any (l : List UInt8) (p : Prt) (A : Option Addr) (n c : Nat) (w : World) (hl : l.length ≤ 1000000000) :
  Calls Tryz.prog 80 #[.string (ba l), prtV p A n c] w fun e w' => e = .returned (.bool (fitsP l.length p)) ∧ w' = w.alloc (prtC p A n c) := by
 have HF := Lib.hid (fun x f b t h1 h2 h3 h => fitsP_eq (n := l.length) (p := p) (f := f) (b := b) (t := t) (x := x) h1 h2 h3 h)
 unfold prtV prtC
 obtain ⟨N, hn⟩ : ∃ n, l.length = n := ⟨_, rfl⟩
 have HL := Lib.hid hn
 obtain ⟨s, hs⟩ : ∃ s, ba l = s := ⟨_, rfl⟩
 have HS := Lib.hid hs
 have HZ := Lib.hid (show s.size = N by rw [← hs, ba_size, hn])
 have hsz : (s.size : Int) = N := by rw [HZ.out]
 rw [hs]
 rw [hn] at hl
 clear hs hn
 obtain ⟨f, hf⟩ : ∃ f, p.start = f := ⟨_, rfl⟩
 obtain ⟨b, hb⟩ : ∃ f, p.body = f := ⟨_, rfl⟩
 obtain ⟨t, ht⟩ : ∃ f, p.stop = f := ⟨_, rfl⟩
 have HFF := Lib.hid (fun x h => HF.out x f b t hf hb ht h)
 rw [hf, hb, ht, HL.out]
 rw [HL.out] at HFF
 clear HF hf hb ht
 go_enter Tryz.func80, Tryz.ntmps80
 go_wp2
 all_goals
  go_ret
  refine ⟨?_, rfl⟩
  rw [HFF.out _ rfl]
  show Ending.returned (Value.bool _) = Ending.returned (Value.bool _)
  congr 2
  rw [Bool.eq_iff_iff]
  simp only [Bool.and_eq_true, decide_eq_true_iff]
  first | omega | (simp; omega)
theorem fits_in {n : Nat} {p : Prt} (h : fitsP n p = true) : 0 ≤ p.start ∧ p.start ≤ p.body ∧ p.body ≤ p.stop ∧ p.stop ≤ n := by
 unfold fitsP at h
 exact of_decide_eq_true h
set_option maxRecDepth 100000 in
theorem body_any (l : List UInt8) (p : Prt) (A : Option Addr) (n c : Nat) (w : World) (hl : l.length ≤ 1000000000) :
  Calls Tryz.prog 36 #[.string (ba l), prtV p A n c] w (StrB w (bodyOf l p)) := by
 have HFI := Lib.hid (fun W => fits_any l p A n c W hl)
 have HEX := Lib.hid (fun i j => ba_cut l i j)
 have HFN := Lib.hid (fun (h : fitsP l.length p = true) => fits_in h)
 have HBO := Lib.hid (show bodyOf l p = if fitsP l.length p = true then (l.take p.stop.toNat).drop p.body.toNat else [] from rfl)
 have hlen : ((ba l).size : Int) = l.length := by rw [ba_size]
 unfold prtV prtC at HFI
 unfold prtV
 have HB := Lib.hid (show ∀ o o', Below w.heap.size w ((w.alloc o).alloc o') from fun o o' => ((Below.refl _ _).alloc (Nat.le_refl _) o).alloc (by simp) o')
 obtain ⟨f, hf⟩ : ∃ f, p.start = f := ⟨_, rfl⟩
 obtain ⟨b, hb⟩ : ∃ f, p.body = f := ⟨_, rfl⟩
 obtain ⟨t, ht⟩ : ∃ f, p.stop = f := ⟨_, rfl⟩
 simp only [hf, hb, ht] at HFI HFN
 rw [hb, ht] at HBO
 rw [hf, hb, ht]
 clear hf hb ht
 cases hx : fitsP l.length p with
 | false =>
  rw [hx] at HBO
  simp only [hx] at HFI
  have HV := Lib.hid (show bodyOf l p = [] by rw [HBO.out]; rfl)
  clear hx HBO HFN HEX
  go_enter Tryz.func36, Tryz.ntmps36
  go_wp2_with fail
  refine (HFI.out _).mono ?_
  rintro e w2 ⟨rfl, rfl⟩
  go_wp2
  go_ret
  refine ⟨by rw [HV.out]; rfl, HB.out _ _⟩
 | true =>
  obtain ⟨h1, h2, h3, h4⟩ := HFN.out hx
  rw [hx] at HBO
  simp only [hx] at HFI
  have HV := Lib.hid (show bodyOf l p = (l.take t.toNat).drop b.toNat by rw [HBO.out]; rfl)
  have hex := HEX.out b.toNat t.toNat
  have HX := Lib.hid hex
  have hb0 : 0 ≤ b := by omega
  have ht0 : 0 ≤ t := by omega
  clear hx HBO HFN hex h1 h2
  go_enter Tryz.func36, Tryz.ntmps36
  go_wp2_with fail
  refine (HFI.out _).mono ?_
  rintro e w2 ⟨rfl, rfl⟩
  go_wp2
  go_ret
  refine ⟨by rw [HV.out, HX.out]; rfl, HB.out _ _⟩
end Go.Proofs.YthidbmeaccpjdaaGreatDoor
