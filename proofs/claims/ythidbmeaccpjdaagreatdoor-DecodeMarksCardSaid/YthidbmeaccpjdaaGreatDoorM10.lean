/- Rows of pouch/api. Layer 10: the contract of Scan. Layer 9: a Replacer of bytes asked (printed by gen_hdr. Layer 10: the contract of Bare. Layer 10: the contract of Join. -/
import Derived.Test.YthidbmeaccpjdaaGreatDoorM09
import Derived.Test.YthidbmeaccpjdaaGreatDoorM01
import Derived.Test.YthidbmeaccpjdaaGreatDoorM07
import Derived.Test.YthidbmeaccpjdaaGreatDoorM05
import Derived.Test.YthidbmeaccpjdaaGreatDoorM08
import Derived.Test.YthidbmeaccpjdaaGreatDoorM04
import Derived.Test.YthidbmeaccpjdaaGreatDoorM06
import Derived.Test.YthidbmeaccpjdaaGreatDoorM02
section
namespace Go.Proofs.YthidbmeaccpjdaaGreatDoor
open Go.RowKit
set_option linter.unusedVariables false
theorem part_info : (Tryz.prog.info? 26).map (fun i => (i.zero, i.size, i.bytes)) = some (some (.agg #[.int .i64 0, .int .i64 0, .int .i64 0, .int .i64 0, .int .i64 0, .string ByteArray.empty, .string ByteArray.empty, .slice none 0 0, .string ByteArray.empty]), 9, 112) := by kernel_rfl
def partCells (t : RawP) : List Value := [.int .i64 (t.up), .int .i64 (t.depth), .int .i64 (t.start), .int .i64 (t.body), .int .i64 (t.stop), .string (ba (t.kind)), .string (ba (t.sub)), .slice (t.pars).1 (t.pars).2.1 (t.pars).2.2, .string (ba (t.code))]
def PartOk (t : RawP) : Prop := (-9223372036854775808 ≤ t.up ∧ t.up ≤ 9223372036854775807) ∧ (-9223372036854775808 ≤ t.depth ∧ t.depth ≤ 9223372036854775807) ∧ (-9223372036854775808 ≤ t.start ∧ t.start ≤ 9223372036854775807) ∧ (-9223372036854775808 ≤ t.body ∧ t.body ≤ 9223372036854775807) ∧ (-9223372036854775808 ≤ t.stop ∧ t.stop ≤ 9223372036854775807)
def Parts (w : World) (B : Nat) (A : Option Addr) (n : Nat) (ts : List (RawP)) : Prop :=
 n = ts.length ∧ ∀ k (hk : k < ts.length), ∃ ad, A = some ad ∧ (ad.add (k * 9)).block < B ∧ w.cell? (ad.add (k * 9)) = some (.int .i64 (ts[k].up)) ∧ w.cell? ⟨(ad.add (k * 9)).block, (ad.add (k * 9)).off + 1, none⟩ = some (.int .i64 (ts[k].depth)) ∧ w.cell? ⟨(ad.add (k * 9)).block, (ad.add (k * 9)).off + 2, none⟩ = some (.int .i64 (ts[k].start)) ∧ w.cell? ⟨(ad.add (k * 9)).block, (ad.add (k * 9)).off + 3, none⟩ = some (.int .i64 (ts[k].body)) ∧ w.cell? ⟨(ad.add (k * 9)).block, (ad.add (k * 9)).off + 4, none⟩ = some (.int .i64 (ts[k].stop)) ∧ w.cell? ⟨(ad.add (k * 9)).block, (ad.add (k * 9)).off + 5, none⟩ = some (.string (ba (ts[k].kind))) ∧ w.cell? ⟨(ad.add (k * 9)).block, (ad.add (k * 9)).off + 6, none⟩ = some (.string (ba (ts[k].sub))) ∧ w.cell? ⟨(ad.add (k * 9)).block, (ad.add (k * 9)).off + 7, none⟩ = some (.slice (ts[k].pars).1 (ts[k].pars).2.1 (ts[k].pars).2.2) ∧ w.cell? ⟨(ad.add (k * 9)).block, (ad.add (k * 9)).off + 8, none⟩ = some (.string (ba (ts[k].code))) ∧ PartOk ts[k]
section
variable {w w' : World} {B B' n : Nat} {A : Option Addr} {ts : List (RawP)}
theorem Parts.below (h : Parts w B A n ts) (hb : Below B w w') : Parts w' B A n ts := by
 refine ⟨h.1, fun k hk => ?_⟩
 obtain ⟨ad, e, h1, c0, c1, c2, c3, c4, c5, c6, c7, c8, h5⟩ := h.2 k hk
 exact ⟨ad, e, h1, (hb.cell h1).trans c0, (hb.cell (p := ⟨(ad.add (k * 9)).block, _, none⟩) h1).trans c1, (hb.cell (p := ⟨(ad.add (k * 9)).block, _, none⟩) h1).trans c2, (hb.cell (p := ⟨(ad.add (k * 9)).block, _, none⟩) h1).trans c3, (hb.cell (p := ⟨(ad.add (k * 9)).block, _, none⟩) h1).trans c4, (hb.cell (p := ⟨(ad.add (k * 9)).block, _, none⟩) h1).trans c5, (hb.cell (p := ⟨(ad.add (k * 9)).block, _, none⟩) h1).trans c6, (hb.cell (p := ⟨(ad.add (k * 9)).block, _, none⟩) h1).trans c7, (hb.cell (p := ⟨(ad.add (k * 9)).block, _, none⟩) h1).trans c8, h5⟩
theorem Parts.more (h : Parts w B A n ts) (hB : B ≤ B') : Parts w B' A n ts := by
 refine ⟨h.1, fun k hk => ?_⟩
 obtain ⟨ad, e, h1, h2⟩ := h.2 k hk
 exact ⟨ad, e, Nat.lt_of_lt_of_le h1 hB, h2⟩
theorem Parts.nil_ : Parts w B A 0 [] := ⟨rfl, fun k hk => by simp at hk⟩
theorem Parts.len (h : Parts w B A n ts) : ts.length = n := h.1.symm
theorem Parts.cutB {ad : Addr} (h : Parts w B (some ad) n ts) (k : Nat) (hk : k ≤ n) : Parts w B (some (ad.add (k * 9))) (n - k) (ts.drop k) := by
 refine ⟨by rw [List.length_drop, h.len], fun j hj => ?_⟩
 rw [List.length_drop] at hj
 obtain ⟨ad', e, r⟩ := h.2 (k + j) (by omega)
 injection e with e
 subst e
 refine ⟨_, rfl, ?_⟩
 rw [add_add', show k * 9 + j * 9 = (k + j) * 9 by omega, List.getElem_drop]
 exact r
end
structure OwnParts (w : World) (B : Nat) (v : Value) (ts : List (RawP)) : Prop where
 row : w.ownsRow B 26 9 v ts.length (ts.flatMap partCells)
 each : ∀ t, t ∈ ts → PartOk t
theorem OwnParts.nil_ (w : World) (B : Nat) : OwnParts w B (.slice none 0 0) [] := ⟨World.ownsRow_nil _ _ _ _, fun t h => by cases h⟩
theorem OwnParts.below {w w' : World} {B : Nat} {v : Value} {ts : List (RawP)} (h : OwnParts w B v ts) (hb : Below w.heap.size w w') : OwnParts w' B v ts :=
 ⟨ownsRow_block h.row fun b e => hb.block b (h.row.lt b e).2, h.each⟩
theorem OwnParts.block {w w' : World} {B : Nat} {v : Value} {ts : List (RawP)} (h : OwnParts w B v ts) (hb : ∀ b, v.ownBlock = some b → w'.heap[b]? = w.heap[b]?) : OwnParts w' B v ts := ⟨ownsRow_block h.row hb, h.each⟩
theorem OwnParts.more {w : World} {B B' : Nat} {v : Value} {ts : List (RawP)} (h : OwnParts w B v ts) (hB : B' ≤ B) : OwnParts w B' v ts := by
 obtain ⟨⟨h0, h1⟩, h2⟩ := h
 refine ⟨⟨h0, ?_⟩, h2⟩
 rcases h1 with h1 | ⟨g, cap, cur, e, hb, r⟩
 ·exact .inl h1
 ·exact .inr ⟨g, cap, cur, e, by omega, r⟩
theorem part_len (ts : List (RawP)) : (ts.flatMap partCells).length = ts.length * 9 := by induction ts with | nil => rfl | cons a r ih => simp [partCells] at ih ⊢; omega
theorem part_get : ∀ (ts : List (RawP)) j (hj : j < ts.length) i (hi : i < 9), (ts.flatMap partCells)[j * 9 + i]? = (partCells ts[j])[i]? := fun ts => by
 induction ts with
 | nil => intro j hj; simp at hj
 | cons a r ih =>
  intro j hj i hi
  cases j with
  | zero =>
   simp only [List.flatMap_cons, List.getElem_cons_zero, Nat.zero_mul, Nat.zero_add]
   rw [List.getElem?_append_left (by simp [partCells]; omega)]
  | succ j =>
   have := ih j (by simpa using hj) i hi
   simp only [List.flatMap_cons, List.getElem_cons_succ]
   rw [List.getElem?_append_right (by simp [partCells]; omega), show (j + 1) * 9 + i - (partCells a).length = j * 9 + i by simp [partCells]; omega]
   exact this
theorem part_addS (a : Addr) {i : Nat} (hi : i ≠ 0) : a.add i = ⟨a.block, a.off + i, none⟩ := by unfold Addr.add; rw [if_neg hi]
theorem OwnParts.reads {w : World} {B : Nat} {v : Value} {ts : List (RawP)} (h : OwnParts w B v ts) : ∃ A c, v = .slice A ts.length c ∧ ts.length ≤ c ∧ c ≤ maxLen ∧ Parts w w.heap.size A ts.length ts := by
 have h0 := h.row
 rcases h0.2 with ⟨rfl, hn⟩ | ⟨g, cap, cur, rfl, hb, hg, q1, q2, q3⟩
 ·have : ts = [] := List.eq_nil_of_length_eq_zero hn
  subst this
  exact ⟨none, 0, rfl, Nat.le_refl _, by simp, Parts.nil_⟩
 ·refine ⟨_, cap, rfl, q1, q2, rfl, fun k hk => ?_⟩
  have hc : ∀ i u, i < 9 → (partCells ts[k])[i]? = some u → w.cell? ⟨g, k * 9 + i, none⟩ = some u := fun i u hi hu => by
   have := h0.cells (g := g) rfl (k * 9 + i) u (by rw [part_get ts k hk i hi]; exact hu)
   unfold Addr.add at this
   by_cases e0 : k * 9 + i = 0
   ·rw [if_pos e0] at this; rw [e0]; exact this
   ·rw [if_neg e0] at this; rw [Nat.zero_add] at this; exact this
  have e1 : (Addr.add ⟨g, 0, none⟩ (k * 9)) = ⟨g, k * 9, none⟩ := by
   unfold Addr.add
   split
   ·rename_i e0; rw [e0]
   ·rw [Nat.zero_add]
  refine ⟨⟨g, 0, none⟩, rfl, by rw [add_block]; exact heap_lt hg, ?_, ?_, ?_, ?_, ?_, ?_, ?_, ?_, ?_, h.each _ (List.getElem_mem hk)⟩
  ·rw [e1]; exact hc 0 _ (by omega) rfl
  ·rw [e1]; exact hc 1 _ (by omega) rfl
  ·rw [e1]; exact hc 2 _ (by omega) rfl
  ·rw [e1]; exact hc 3 _ (by omega) rfl
  ·rw [e1]; exact hc 4 _ (by omega) rfl
  ·rw [e1]; exact hc 5 _ (by omega) rfl
  ·rw [e1]; exact hc 6 _ (by omega) rfl
  ·rw [e1]; exact hc 7 _ (by omega) rfl
  ·rw [e1]; exact hc 8 _ (by omega) rfl
theorem part_one (l : List (RawP)) : ∀ u ∈ l.flatMap partCells, u.oneCell' = true := by
 intro u hu
 obtain ⟨t, _, ht⟩ := List.mem_flatMap.1 hu
 simp only [partCells, List.mem_cons, List.not_mem_nil, or_false] at ht
 rcases ht with rfl | rfl | rfl | rfl | rfl | rfl | rfl | rfl | rfl <;> rfl
theorem Parts.cells {w : World} {B m : Nat} {ad : Addr} {l : List (RawP)} (h : Parts w B (some ad) m l) : ∀ j u, (l.flatMap partCells)[j]? = some u → w.cell? (ad.add j) = some u := by
 intro j u hu
 have hj : j < l.length * 9 := by have := (List.getElem?_eq_some_iff.1 hu).1; rw [part_len] at this; exact this
 obtain ⟨k, i, hi, rfl⟩ : ∃ k i, i < 9 ∧ j = k * 9 + i := ⟨j / 9, j % 9, by omega, by omega⟩
 have hk : k < l.length := by omega
 rw [part_get l k hk i hi] at hu
 obtain ⟨ad', e, _, c0, c1, c2, c3, c4, c5, c6, c7, c8, _⟩ := h.2 k hk
 injection e with e
 subst e
 rw [← add_add']
 match i, hi with
 | 0, _ =>
  have hu' : Value.int .i64 (l[k].up) = u := Option.some.inj hu
  subst hu'
  have e0 : (ad.add (k * 9)).add 0 = ad.add (k * 9) := by unfold Addr.add; rfl
  rw [e0]; exact c0
 | 1, _ =>
  have hu' : Value.int .i64 (l[k].depth) = u := Option.some.inj hu
  subst hu'
  rw [part_addS _ (by decide)]; exact c1
 | 2, _ =>
  have hu' : Value.int .i64 (l[k].start) = u := Option.some.inj hu
  subst hu'
  rw [part_addS _ (by decide)]; exact c2
 | 3, _ =>
  have hu' : Value.int .i64 (l[k].body) = u := Option.some.inj hu
  subst hu'
  rw [part_addS _ (by decide)]; exact c3
 | 4, _ =>
  have hu' : Value.int .i64 (l[k].stop) = u := Option.some.inj hu
  subst hu'
  rw [part_addS _ (by decide)]; exact c4
 | 5, _ =>
  have hu' : Value.string (ba (l[k].kind)) = u := Option.some.inj hu
  subst hu'
  rw [part_addS _ (by decide)]; exact c5
 | 6, _ =>
  have hu' : Value.string (ba (l[k].sub)) = u := Option.some.inj hu
  subst hu'
  rw [part_addS _ (by decide)]; exact c6
 | 7, _ =>
  have hu' : Value.slice (l[k].pars).1 (l[k].pars).2.1 (l[k].pars).2.2 = u := Option.some.inj hu
  subst hu'
  rw [part_addS _ (by decide)]; exact c7
 | 8, _ =>
  have hu' : Value.string (ba (l[k].code)) = u := Option.some.inj hu
  subst hu'
  rw [part_addS _ (by decide)]; exact c8
set_option maxRecDepth 100000 in
theorem run_nonePart (w : World) (B : Nat) (t ty : TypeId) (ht : Tryz.prog.underlying t = some (.slice 26)) (v : Value) (acc : List (RawP)) (hown : OwnParts w B v acc) (c : Nat) : (Builtin.append_ #[t, t] ty #[v, .slice none 0 c]).run Tryz.prog w = .ok v w := by
 obtain ⟨i0, hi, hz0, hz1, hz2⟩ := info_parts part_info
 rcases hown.row.2 with ⟨rfl, _⟩ | ⟨g, cap, cur, rfl, _, _, hnc, _⟩
 ·simp [Builtin.append_, run_underlying ht, sizeOf, typeInfo, hi, Builtin.lenOf, Builtin.firstCells]
 ·simp [Builtin.append_, run_underlying ht, sizeOf, typeInfo, hi, Builtin.lenOf, Builtin.firstCells, hnc, storeCells]
set_option maxRecDepth 100000 in
theorem run_joinPart (w : World) (B : Nat) (t ty : TypeId) (ht : Tryz.prog.underlying t = some (.slice 26)) (v : Value) (acc : List (RawP)) (hown : OwnParts w B v acc) (hB : B ≤ w.heap.size)
  (D : Nat) (A : Option Addr) (m c : Nat) (l : List (RawP)) (hr : Parts w D A m l) (hlen : acc.length + m ≤ 1000000000) :
  ∃ v' w', (Builtin.append_ #[t, t] ty #[v, .slice A m c]).run Tryz.prog w = .ok v' w' ∧ OwnParts w' B v' (acc ++ l) ∧ w.grownBy w' v.ownBlock ∧ (v'.ownBlock = v.ownBlock ∨ ∃ k, v'.ownBlock = some k ∧ w.heap.size ≤ k) := by
 obtain ⟨i0, hi, hz0, hz1, hz2⟩ := info_parts part_info
 have hml := hr.len
 rcases A with _ | ad
 ·have hl : l = [] := by
   cases l with
   | nil => rfl
   | cons a r => obtain ⟨ad, e, _⟩ := hr.2 0 (by simp); cases e
  subst hl
  obtain rfl : m = 0 := hml.symm
  exact ⟨v, w, run_nonePart w B t ty ht v acc hown c, by simpa using hown, World.grownBy.refl w _, .inl rfl⟩
 ·obtain ⟨v', w', hrun, h2, h3, _, h5⟩ := run_append_own_at (P := Tryz.prog) w B t ty 26 i0 _ 9 112 ht hi hz0 hz1 hz2 rfl (by omega) v acc.length (acc.flatMap partCells) hown.row ad m c (l.flatMap partCells) (by rw [part_len, hml]) hr.cells (part_one l) (by simp only [maxLen]; omega) (by omega) hB
  refine ⟨v', w', hrun, ⟨?_, fun t ht => ?_⟩, h3, ?_⟩
  ·rw [List.flatMap_append, List.length_append, hml]; exact h2
  ·rcases List.mem_append.1 ht with ht | ht
   ·exact hown.each t ht
   ·obtain ⟨k, hk, rfl⟩ := List.getElem_of_mem ht
    obtain ⟨_, _, _, _, _, _, _, _, _, _, _, _, hb⟩ := hr.2 k hk
    exact hb
  ·rcases h5 with h | h
   ·exact .inl h
   ·exact .inr ⟨_, h, Nat.le_refl _⟩
theorem wpList_joinPart {ops : Array Oper} {rest : List Oper} {o : Oper} {a : Act} {w : World} {Q : Exit → Act → World → Prop} {B : Nat} {v : Value} {acc : List (RawP)} (hown : OwnParts w B v acc) (hB : B ≤ w.heap.size)
  {D : Nat} {A : Option Addr} {m : Nat} {l : List (RawP)} (hr : Parts w D A m l) (hlen : acc.length + m ≤ 1000000000) (hgd : o.guard = none) (s x : Operand) (t : TypeId) (c : Nat)
  (ho : o.op = .call { callee := .builtin .append, args := #[s, x], argTypes := #[t, t] }) (ht : Tryz.prog.underlying t = some (.slice 26)) (hs : a.eval s = v) (hx : a.eval x = .slice A m c)
  (h : ∀ v' w', OwnParts w' B v' (acc ++ l) → w.grownBy w' v.ownBlock → (v'.ownBlock = v.ownBlock ∨ ∃ k, v'.ownBlock = some k ∧ w.heap.size ≤ k) → wpList Tryz.prog ops Q rest (a.put o.dst v') w') : wpList Tryz.prog ops Q (o :: rest) a w := by
 refine wpList_plain hgd fun K hK => ?_
 obtain ⟨v', w', hrun, h2, h3, h4⟩ := run_joinPart w B t o.type ht v acc hown hB D A m c l hr hlen
 unfold Oper.wp execOp
 simp only [ho, resolve, invoke, builtin, Sem.run_bind, Sem.run_pure, Result.andThen_ok, List.map_toArray, List.map_cons, List.map_nil, hs, hx, hrun]
 exact hK _ _ (h v' w' h2 h3 h4)
end Go.Proofs.YthidbmeaccpjdaaGreatDoor
end
namespace Go.Proofs.YthidbmeaccpjdaaGreatDoor
open Go.RowKit
set_option linter.unusedVariables false
set_option maxHeartbeats 4000000
set_option maxRecDepth 100000 in
theorem scan_any (l : List UInt8) (w : World) (hl : l.length ≤ 1000000000) :
  Calls Tryz.prog 78 #[.string (ba l)] w fun e w' => ∃ v, e = .returned v ∧ OwnToks w' w.heap.size v (scanP l) ∧ Below w.heap.size w w' := by
 go_enter Tryz.func78, Tryz.ntmps78
 go_wp2
 go_loopw [0, 2] (fun s v wr => ∃ (r : List UInt8) (acc : List Tok), s = .string (ba r) ∧ Hid (ScanRel w l r acc v wr)) (fun s _ _ => (strOf s).size)
 case atStart => exact ⟨l, [], rfl, OwnToks.nil_ _ _, Below.refl _ _, rfl, by simp⟩
 case round =>
  obtain ⟨r, acc, rfl, HR⟩ := hrel
  have hsz := HR.out.2.1.size
  cases r with
  | nil =>
   have g1 : (ba ([] : List UInt8)).toList.isEmpty = true := by rw [ba_toList]; rfl
   go_wp2
   go_ret
   refine ⟨_, rfl, ?_, HR.out.2.1⟩
   have h := HR.out.2.2.1
   rw [scanP_nil, List.append_nil] at h
   rw [← h]
   exact HR.out.1
  | cons c r =>
   have g1 : (ba (c :: r)).toList.isEmpty = false := by rw [ba_toList]; rfl
   have hlen := HR.out.2.2.2
   have hlen2 : (c :: r).length ≤ l.length := by omega
   have HFR := Lib.hid (fun W => front_any c r W (by omega))
   have HNX := Lib.hid (scanP_cons (l := c :: r) (by simp))
   have HLE := Lib.hid (frontP_len (l := c :: r) (by simp))
   have HK := Lib.hid (frontP_kind (c :: r))
   obtain ⟨⟨k, m⟩, hf⟩ : ∃ v, frontP (c :: r) = v := ⟨_, rfl⟩
   rw [hf] at HNX HLE HK
   simp only [hf] at HFR
   clear hf
   obtain ⟨t, ht⟩ : ∃ t, (c :: r).take m = t := ⟨_, rfl⟩
   obtain ⟨d, hd⟩ : ∃ d, (c :: r).drop m = d := ⟨_, rfl⟩
   have HDL := Lib.hid (show d.length < (c :: r).length by
    have h1 := HLE.out.1
    have h2 := HLE.out.2
    rw [← hd, List.length_drop]
    have h3 : (c :: r).length = r.length + 1 := rfl
    show (c :: r).length - m < _
    have h4 : 0 < m := h1
    omega)
   have HNX2 := Lib.hid (show scanP (c :: r) = ⟨k, t⟩ :: scanP d by rw [HNX.out, ← ht, ← hd])
   simp only [ht, hd] at HFR
   clear ht hd HNX hlen2
   have HB2 : Hid (Below wr.heap.size wr ((((wr.alloc (.cells #[.int .i64 k, .string (ba t)] 94)).alloc (.cells #[.int .i64 k, .string (ba t)] 94)).drew))) := Lib.hid ((((Below.refl _ _).alloc (Nat.le_refl _) _).alloc (by simp) _).drew)
   go_wp2_with fail
   refine (HFR.out _).mono ?_
   rintro e w' ⟨rfl, rfl⟩
   clear HFR
   have HOWN : Hid (OwnToks (((wr.alloc (.cells #[.int .i64 k, .string (ba t)] 94)).alloc (.cells #[.int .i64 k, .string (ba t)] 94)).drew) w.heap.size u2 acc) := Lib.hid (HR.out.1.below HB2.out)
   have hB : w.heap.size ≤ (((wr.alloc (.cells #[.int .i64 k, .string (ba t)] 94)).alloc (.cells #[.int .i64 k, .string (ba t)] 94)).drew).heap.size := by simp; omega
   have HTK : Hid (TokOk (⟨k, t⟩ : Tok)) := Lib.hid (by have h1 := HK.out.1; have h2 := HK.out.2; unfold TokOk; exact ⟨by show _ ≤ k; have : (0 : Int) ≤ k := h1; omega, by show k ≤ _; have : k ≤ (7 : Int) := h2; omega⟩)
   have HAL := Lib.hid (show acc.length ≤ 1000000000 by omega)
   have HWB := Lib.hid (show Below w.heap.size w (((wr.alloc (.cells #[.int .i64 k, .string (ba t)] 94)).alloc (.cells #[.int .i64 k, .string (ba t)] 94)).drew) from HR.out.2.1.trans (HB2.out.mono hsz))
   go_wp2_with (at_builtin; go_must (refine wpList_pushTok (W := (((wr.alloc (.cells #[.int .i64 k, .string (ba t)] 94)).alloc (.cells #[.int .i64 k, .string (ba t)] 94)).drew)) HOWN.out hB HTK.out HAL.out rfl (.tmp 11) (.tmp 13) 1 rfl rfl (by show Value.slice (some ⟨wr.heap.size + 1 + 1, 0, none⟩) 1 1 = _; simp) ?_); intro v2 w2 h1 h2; (have H1 := Lib.hid h1; have H2 := Lib.hid h2; clear h1 h2))
   go_roundw
   case rel =>
    refine ⟨d, acc ++ [⟨k, t⟩], rfl, H1.out, HWB.out.grown H2.out hB fun g e => (HOWN.out.row.lt g e).1, ?_, ?_⟩
    ·rw [List.append_assoc, ← HR.out.2.2.1, HNX2.out]; rfl
    ·have := HDL.out
     rw [List.length_append]
     show acc.length + 1 + _ ≤ _
     omega
   case measure =>
    show (ba d).size < (ba (c :: r)).size
    rw [ba_size, ba_size]
    exact HDL.out
def airB1 (c : UInt8) : UInt8 := if c = 13 ∨ c = 10 then 32 else c
theorem airP_map (l : List UInt8) : airP l = l.map airB1 := rfl
theorem airP_len (l : List UInt8) : (airP l).length = l.length := List.length_map _
theorem air_len (l : List UInt8) (k : Nat) : (airP (l.take k) ++ l.drop k).length = l.length := by
 rw [List.length_append, airP_len, List.length_take, List.length_drop]
 omega
theorem air_get {l : List UInt8} {k : Nat} (hk : k < l.length) (h : k < (airP (l.take k) ++ l.drop k).length) : (airP (l.take k) ++ l.drop k)[k] = l[k] := by
 rw [List.getElem_append_right (by rw [airP_len, List.length_take]; omega)]
 simp only [airP_len, List.length_take, List.getElem_drop]
 congr 1
 omega
theorem air_step {l : List UInt8} {k : Nat} (hk : k < l.length) : airP (l.take (k + 1)) ++ l.drop (k + 1) = (airP (l.take k) ++ l.drop k).set k (airB1 l[k]) := by
 rw [List.take_succ_eq_append_getElem hk]
 have e1 : airP (l.take k ++ [l[k]]) = airP (l.take k) ++ [airB1 l[k]] := by rw [airP_map, List.map_append]; rfl
 have e2 : l.drop k = l[k] :: l.drop (k + 1) := List.drop_eq_getElem_cons hk
 have e3 : k - (airP (l.take k)).length = 0 := by rw [airP_len, List.length_take]; omega
 rw [e1, List.set_append_right _ _ (by rw [airP_len, List.length_take]; omega), e3]
 conv => rhs; rw [e2]
 rw [List.append_assoc]
 rfl
theorem air_same {l : List UInt8} {k : Nat} (hk : k < l.length) (h : airB1 l[k] = l[k]) : airP (l.take (k + 1)) ++ l.drop (k + 1) = airP (l.take k) ++ l.drop k := by
 rw [air_step hk, h]
 have h1 : k < (airP (l.take k) ++ l.drop k).length := by rw [air_len]; exact hk
 have := air_get hk h1
 rw [← this, List.set_getElem_self]
theorem air_take {l : List UInt8} {k : Nat} (hk : k < l.length) (h : airB1 l[k] = l[k]) (h2 : airP (l.take k) = l.take k) : airP (l.take (k + 1)) = l.take (k + 1) := by
 rw [List.take_succ_eq_append_getElem hk, airP_map, List.map_append, ← airP_map, h2]
 show _ ++ [airB1 l[k]] = _
 rw [h]
structure AirSt (w : World) (l : List UInt8) (k : Nat) (v : Value) (wr : World) : Prop where
 bel : Below w.heap.size w wr
 buf : (v = .slice none 0 0 ∧ airP (l.take k) = l.take k) ∨ ∃ g C, v = .slice (some ⟨g, 0, none⟩) l.length C ∧ w.heap.size ≤ g ∧ ByteRow wr g (airP (l.take k) ++ l.drop k)
theorem some_eql (g n c : Nat) (W : World) : (binOp .eql 62 (.slice (some ⟨g, 0, none⟩) n c) (.slice none 0 0)).run Tryz.prog W = .ok (.bool false) W := by kernel_rfl
set_option maxRecDepth 100000 in
theorem airrepl_any (l : List UInt8) (R : Nat) (w : World) (hl : l.length ≤ 1000000000) (hR : RowV w R 256 (airF true true)) :
  Calls Tryz.prog 355 #[.pointer (some ⟨R, 0, none⟩), .string (ba l)] w (StrB w (airP l)) := by
 have HROW := Lib.hid (show ∀ w', Below w.heap.size w w' → ∀ j, j < 256 → w'.cell? ⟨R, j, none⟩ = some (airF true true j) from fun w' hb j hj => (hb.cell (p := ⟨R, j, none⟩) hR.lt).trans (hR.cell hj))
 have hnl := nil_eql
 have hcv := fun (W : World) (S : ByteArray) => run_bytes_of_string (P := Tryz.prog) W 9 62 5 S Tryz.underlying9 Tryz.underlying62 Tryz.underlying5
 have HR0 := Lib.hid (fun (W : World) (cap m : Nat) (hm : l.length ≤ m) => ByteRow.of_string W l cap 5 m hm)
 have HRL := Lib.hid (show R < w.heap.size from hR.lt)
 clear hR
 obtain ⟨n, hn⟩ : ∃ n, l.length = n := ⟨_, rfl⟩
 have HL := Lib.hid hn
 obtain ⟨s, hs⟩ : ∃ s, ba l = s := ⟨_, rfl⟩
 have HS := Lib.hid hs
 have HZ := Lib.hid (show s.size = n by rw [← hs, ba_size, hn])
 have hsz : (s.size : Int) = n := by rw [HZ.out]
 rw [hs]
 rw [hn] at hl
 clear hs hn
 rw [HS.out] at HR0
 go_enter Tryz.func355, Tryz.ntmps355
 go_wp2
 go_loopw [5, 6, 7] (fun v i y wr => ∃ (k : Nat) (z : Value), y = z ∧ k ≤ n ∧ i = .int .i64 (k : Int) ∧ Hid (AirSt w l k v wr)) (fun _ i _ _ => n - (intOf i).toNat)
 case atStart => exact ⟨0, _, rfl, Nat.zero_le _, rfl, Lib.hid ⟨Below.refl _ _, .inl ⟨rfl, rfl⟩⟩⟩
 case round =>
  obtain ⟨k, z, rfl, hk, rfl, HR⟩ := hrel
  have hszr := HR.out.bel.size
  by_cases hlt : k < n
  ·have hk2 : (k : Int) < (n : Int) := by omega
   have hk0 : (0 : Int) ≤ (k : Int) := by omega
   have hks : k < s.size := by rw [HZ.out]; omega
   have hkl : k < l.length := by rw [HL.out]; omega
   have hget : s[k] = l[k] := by
    have h := HS.out
    subst h
    rfl
   have HST := Lib.hid (air_step hkl)
   have HSA := Lib.hid (air_same hkl)
   have HTA := Lib.hid (air_take hkl)
   have hks2 : k < (airP (l.take k) ++ l.drop k).length := by rw [air_len]; exact hkl
   obtain ⟨c, hc⟩ : ∃ c, l[k] = c := ⟨_, rfl⟩
   rw [hc] at hget HST HSA HTA
   obtain ⟨x, hx⟩ : ∃ x : Int, (c.toNat : Int) = x := ⟨_, rfl⟩
   have hgi : ((s[k]).toNat : Int) = x := by rw [hget]; exact hx
   have HX := Lib.hid hx
   have hx0 : 0 ≤ x := by omega
   have hx1 : x ≤ 255 := by have := c.toNat_lt; omega
   clear hc hkl hget hx
   have hcl := HROW.out wr HR.out.bel x.toNat (by omega)
   have hxn : x.toNat = c.toNat := by have := HX.out; omega
   have HXN := Lib.hid hxn
   clear hxn
   by_cases e1 : x = 13 ∨ x = 10
   ·have HA := Lib.hid (show airB1 c = 32 by
     unfold airB1
     rw [if_pos]
     rcases e1 with e1 | e1
     ·exact .inl (UInt8.toNat_inj.1 (by have := HX.out; show c.toNat = 13; omega))
     ·exact .inr (UInt8.toNat_inj.1 (by have := HX.out; show c.toNat = 10; omega)))
    have hc32 : airF true true x.toNat = .int .u8 32 := by
     unfold airF airN
     rcases e1 with e1 | e1 <;> subst e1 <;> rfl
    rw [hc32] at hcl
    have g1 : ((32 : Int) != x) = true := by rcases e1 with e1 | e1 <;> subst e1 <;> rfl
    have HCL := Lib.hid hc32
    clear e1 hc32
    rcases HR.out.buf with ⟨rfl, hta⟩ | ⟨g, C, rfl, hg, hrow⟩
    ·have HB0 := Lib.hid HR.out.bel
     have HTK := Lib.hid hta
     obtain ⟨C, hC⟩ : ∃ C, grownCap wr s.size 0 5 = C := ⟨_, rfl⟩
     have hcvw := hcv wr s
     have hcl2 : l.length ≤ (bytesRow s C).size := by rw [bytesRow_size s C (by rw [← hC]; have := grownCap_ge wr s.size 0 5; omega), ← hC, HL.out]; have := grownCap_ge wr s.size 0 5; have := HZ.out; omega
     rw [hC] at hcvw
     have hrw := HR0.out wr C _ hcl2
     have hRne : ¬ R = wr.heap.size := by
      have h := World.block_lt_of_cell? _ _ hcl
      have h2 : R < wr.heap.size := h
      omega
     have hkl : k < l.length := by rw [HL.out]; exact hlt
     have hfz := hrw.free hkl
     obtain ⟨cv, hce⟩ : ∃ v, (wr.alloc (.cells (bytesRow s C) 5 ((bytesRow s C).size, (bytesRow s C).size + 1))).cell? ⟨wr.heap.size, k, none⟩ = some v := ⟨_, hrw.cell hkl⟩
     have hcz : (wr.alloc (.cells (bytesRow s C) 5 ((bytesRow s C).size, (bytesRow s C).size + 1))).cell? ⟨R, x.toNat, none⟩ = some (.int .u8 32) := (World.cell?_alloc_past _ _ _ (World.block_lt_of_cell? _ _ hcl)).trans hcl
     have HRW := Lib.hid hrw
     have hk3 : (k : Int) < (s.size : Int) := by omega
     have HRS := Lib.hid (show ByteRow ((wr.alloc (.cells (bytesRow s C) 5 ((bytesRow s C).size, (bytesRow s C).size + 1))).setCell ⟨wr.heap.size, k, none⟩ (.int .u8 32)) wr.heap.size (airP (l.take (k + 1)) ++ l.drop (k + 1)) by
      rw [HST.out, HA.out, hta, List.take_append_drop]
      exact hrw.set hkl 32)
     clear HR hta hcv hC hcl2 hrw
     go_wp2
     go_roundw
     case rel => exact ⟨k + 1, _, rfl, by omega, by go_num, Lib.hid ⟨by
      repeat (first | with_reducible exact HB0.out | refine Below.drew ?_ | refine Below.setCell ?_ (by first | exact hszr | (simp; omega)) _ | refine Below.alloc ?_ (by first | exact hszr | (simp; omega)) _), .inr ⟨wr.heap.size, C, by rw [HZ.out, HL.out], hszr, HRS.out⟩⟩⟩
     case measure => simp [intOf] <;> omega
    ·have hrow3 := hrow
     have hkl : k < (airP (l.take k) ++ l.drop k).length := by rw [air_len, HL.out]; exact hlt
     have hcell := hrow.cell hkl
     have hfree := hrow.free hkl
     have hsq := some_eql g l.length C
     have hgl := hrow.lt
     have HSET := Lib.hid (hrow.set hkl 32)
     have hgR : ¬ R = g := by have h2 := HRL.out; omega
     have HRS := Lib.hid (show ByteRow (wr.setCell ⟨g, k, none⟩ (.int .u8 32)) g (airP (l.take (k + 1)) ++ l.drop (k + 1)) by
      rw [HST.out, HA.out]
      exact hrow.set hkl 32)
     have hlz : l.length = n := HL.out
     rw [hlz] at hsq ⊢
     have hB := HR.out.bel
     have HBE := Lib.hid hB
     have hg' := hg
     clear hrow hrow3 HR hB hlz hnl hcv
     go_wp2
     go_roundw
     case rel => exact ⟨k + 1, _, rfl, by omega, by go_num, Lib.hid ⟨HBE.out.setCell hg' _, .inr ⟨g, C, by rw [HL.out], hg', HRS.out⟩⟩⟩
     case measure => simp [intOf] <;> omega
   ·have HA := Lib.hid (show airB1 c = c by
     unfold airB1
     rw [if_neg]
     rintro (e | e)
     ·exact e1 (.inl (by rw [← HX.out, e]; rfl))
     ·exact e1 (.inr (by rw [← HX.out, e]; rfl)))
    have hcx : airF true true x.toNat = .int .u8 x := by
     unfold airF airN
     rw [if_neg (by omega), if_neg (by omega)]
     congr 1
     omega
    rw [hcx] at hcl
    have HN := Lib.hid (show AirSt w l (k + 1) _ wr from ⟨HR.out.bel, by
     rcases HR.out.buf with ⟨h1, h2⟩ | ⟨g, C, h1, h2, h3⟩
     ·exact .inl ⟨h1, HTA.out HA.out h2⟩
     ·exact .inr ⟨g, C, h1, h2, by rw [HSA.out HA.out]; exact h3⟩⟩)
    clear e1 hcx
    go_wp2
    go_roundw
    case rel => exact ⟨k + 1, _, rfl, by omega, by go_num, HN⟩
    case measure => simp [intOf] <;> omega
  ·obtain rfl : k = n := by omega
   rcases HR.out.buf with ⟨rfl, hta⟩ | ⟨g, C, rfl, hg, hrow⟩
   ·have HF := Lib.hid (show airP l = l by
     rw [List.take_of_length_le (by rw [HL.out]; exact Nat.le_refl _)] at hta
     exact hta)
    clear hta
    go_wp2
    go_ret
    exact str_fin0 (by rw [HF.out]; exact HS.out.symm) HR.out.bel
   ·have hsq := some_eql g l.length C
    have hrow2 : ByteRow wr g (airP l) := by
     rw [List.take_of_length_le (by rw [HL.out]; exact Nat.le_refl _), List.drop_of_length_le (by rw [HL.out]; exact Nat.le_refl _), List.append_nil] at hrow
     exact hrow
    have hback := run_convert_bytes_back (P := Tryz.prog) wr 62 9 5 ⟨g, 0, none⟩ C (airP l) Tryz.underlying62 Tryz.underlying5 Tryz.underlying9 hrow2.cells
    rw [airP_len] at hback
    clear hrow hrow2 hnl
    go_wp2
    go_ret
    exact ⟨rfl, HR.out.bel⟩
set_option maxRecDepth 100000 in
theorem bare_any (ts : List Tok) (A : Option Addr) (n c : Nat) (w : World) (hT : Toks w w.heap.size A n ts) (hn : n ≤ 1000000000) :
  Calls Tryz.prog 77 #[.slice A n c] w fun e w' => ∃ v, e = .returned v ∧ OwnToks w' w.heap.size v (bareP ts) ∧ Below w.heap.size w w' := by
 go_enter Tryz.func77, Tryz.ntmps77
 have HT := Lib.hid hT
 obtain rfl : n = ts.length := hT.1
 obtain ⟨n, hn2⟩ : ∃ n, ts.length = n := ⟨_, rfl⟩
 have HN := Lib.hid hn2
 rw [hn2] at hn ⊢
 clear hT hn2
 go_wp2
 go_loopw [2, 7] (fun v i wr => ∃ k : Nat, k ≤ n ∧ i = .int .i64 (k : Int) ∧ Hid (BareRel w ts k v wr)) (fun _ i _ => n - (intOf i).toNat)
 case atStart => exact ⟨0, Nat.zero_le _, rfl, OwnToks.nil_ _ _, Below.refl _ _⟩
 case round =>
  obtain ⟨k, hk, rfl, HR⟩ := hrel
  have hsz := HR.out.2.size
  by_cases hlt : k < n
  ·have hk2 : (k : Int) < n := by omega
   have hkl : k < ts.length := by rw [HN.out]; exact hlt
   obtain ⟨ad, rfl, hbl, c0, c1, c2⟩ := (HT.out.below HR.out.2).2 k hkl
   have HP := Lib.hid (bare_step ts k hkl)
   have hal : (bareP (ts.take k)).length ≤ 1000000000 := by
    have h1 : (bareP (ts.take k)).length ≤ (ts.take k).length := List.length_filter_le _ _
    rw [List.length_take] at h1
    omega
   have HAL := Lib.hid hal
   obtain ⟨t, ht⟩ : ∃ t, ts[k] = t := ⟨_, rfl⟩
   rw [ht] at c0 c1 c2 HP
   have HC2 := Lib.hid c2
   clear ht hal c2
   have HOWN : Hid (OwnToks (wr.alloc (.cells #[.int .i64 t.kind, .string (ba t.text)] 94)) w.heap.size u2 (bareP (ts.take k))) := Lib.hid (HR.out.1.below ((Below.refl _ _).alloc (Nat.le_refl _) _))
   have hB : w.heap.size ≤ (wr.alloc (.cells #[.int .i64 t.kind, .string (ba t.text)] 94)).heap.size := by simp; omega
   have HBEL := Lib.hid (HR.out.2.alloc hsz (.cells #[.int .i64 t.kind, .string (ba t.text)] 94))
   by_cases e6 : t.kind = 6
   ·have g6 : (t.kind == 6) = true := by simpa using e6
    have HD := Lib.hid (show bareP [t] = [] by unfold bareP keepB; simp [e6])
    clear e6
    go_wp2
    go_roundw
    case rel =>
     refine ⟨k + 1, by omega, by go_num, ?_, HBEL.out⟩
     rw [HP.out, HD.out, List.append_nil]
     exact HOWN.out
    case measure => simp [intOf] <;> omega
   have g6 : (t.kind == 6) = false := by simpa using e6
   by_cases e3 : t.kind = 3
   ·have g3 : (t.kind == 3) = true := by simpa using e3
    have HD := Lib.hid (show bareP [t] = [] by unfold bareP keepB; simp [e3])
    clear e3 e6
    go_wp2
    go_roundw
    case rel =>
     refine ⟨k + 1, by omega, by go_num, ?_, HBEL.out⟩
     rw [HP.out, HD.out, List.append_nil]
     exact HOWN.out
    case measure => simp [intOf] <;> omega
   have g3 : (t.kind == 3) = false := by simpa using e3
   have HD := Lib.hid (show bareP [t] = [t] by unfold bareP keepB; simp [e3, e6])
   clear e3 e6
   go_wp2_with (at_builtin; go_must (refine wpList_pushTok (W := (wr.alloc (.cells #[.int .i64 t.kind, .string (ba t.text)] 94))) HOWN.out hB HC2.out HAL.out rfl (.tmp 17) (.tmp 19) 1 rfl rfl (by show Value.slice (some ⟨wr.heap.size + 1, 0, none⟩) 1 1 = _; simp) ?_); intro v2 w2 h1 h2; (have H1 := Lib.hid h1; have H2 := Lib.hid h2; clear h1 h2))
   go_roundw
   case rel =>
    refine ⟨k + 1, by omega, by go_num, ?_, HBEL.out.grown H2.out hB fun g e => (HOWN.out.row.lt g e).1⟩
    rw [HP.out, HD.out]
    exact H1.out
   case measure => simp [intOf] <;> omega
  ·obtain rfl : k = n := by omega
   go_wp2
   go_ret
   refine ⟨_, rfl, ?_, HR.out.2⟩
   have := HR.out.1
   rw [List.take_of_length_le (by rw [HN.out]; exact Nat.le_refl _)] at this
   exact this
def JoinRel (w : World) (ts : List Tok) (k : Nat) (wr : World) : Prop := Bld wr w.heap.size w.heap.size (joinP (ts.take k)) ∧ Below w.heap.size w wr
theorem join_step (ts : List Tok) (k : Nat) (hk : k < ts.length) : joinP (ts.take (k + 1)) = joinP (ts.take k) ++ ts[k].text := by
 rw [List.take_succ_eq_append_getElem hk]
 unfold joinP
 rw [List.flatMap_append]
 simp
theorem join_le (ts : List Tok) (k : Nat) : (joinP (ts.take k)).length ≤ (joinP ts).length := by
 have h : joinP ts = joinP (ts.take k) ++ joinP (ts.drop k) := by
  unfold joinP
  rw [← List.flatMap_append, List.take_append_drop]
 rw [h, List.length_append]
 omega
set_option maxRecDepth 100000 in
theorem tjoin_any (ts : List Tok) (A : Option Addr) (n c : Nat) (w : World) (hT : Toks w w.heap.size A n ts) (hn : n ≤ 1000000000) (hj : (joinP ts).length ≤ 1000000000) :
  Calls Tryz.prog 152 #[.slice A n c] w fun e w' => e = .returned (.string (ba (joinP ts))) ∧ Below w.heap.size w w' := by
 go_enter Tryz.func152, Tryz.ntmps152
 have HT := Lib.hid hT
 obtain rfl : n = ts.length := hT.1
 obtain ⟨n, hn2⟩ : ∃ n, ts.length = n := ⟨_, rfl⟩
 have HN := Lib.hid hn2
 rw [hn2] at hn ⊢
 clear hT hn2
 have HB0 := Lib.hid (bld_new w)
 go_wp2
 go_loopw [8] (fun i wr => ∃ k : Nat, k ≤ n ∧ i = .int .i64 (k : Int) ∧ Hid (JoinRel w ts k wr)) (fun i _ => n - (intOf i).toNat)
 case atStart => exact ⟨0, Nat.zero_le _, rfl, HB0.out, (Below.refl _ _).alloc (Nat.le_refl _) _⟩
 case round =>
  obtain ⟨k, hk, rfl, HR⟩ := hrel
  have hsz := HR.out.2.size
  by_cases hlt : k < n
  ·have hk2 : (k : Int) < n := by omega
   have hkl : k < ts.length := by rw [HN.out]; exact hlt
   obtain ⟨ad, rfl, hbl, c0, c1, c2⟩ := (HT.out.below HR.out.2).2 k hkl
   have HP := Lib.hid (join_step ts k hkl)
   have hle := join_le ts (k + 1)
   rw [HP.out] at hle
   obtain ⟨t, ht⟩ : ∃ t, ts[k] = t := ⟨_, rfl⟩
   rw [ht] at c0 c1 HP hle
   have hlen : (joinP (ts.take k)).length + t.text.length ≤ 140737488355328 := by
    rw [List.length_append] at hle
    omega
   have HLEN := Lib.hid hlen
   clear ht c2 hle hlen
   have HB1 := Lib.hid (HR.out.1.alloc (.cells #[.int .i64 t.kind, .string (ba t.text)] 94))
   have hB : w.heap.size ≤ (wr.alloc (.cells #[.int .i64 t.kind, .string (ba t.text)] 94)).heap.size := by simp; omega
   have HBEL := Lib.hid (HR.out.2.alloc hsz (.cells #[.int .i64 t.kind, .string (ba t.text)] 94))
   go_wp2_with fail
   refine (write_string _ _ _ t.text (wr.alloc (.cells #[.int .i64 t.kind, .string (ba t.text)] 94)) HB1.out HLEN.out hB).mono ?_
   rintro e w' ⟨rfl, hW⟩
   have HW := Lib.hid hW
   clear hW
   go_wp2
   go_roundw
   case rel =>
    refine ⟨k + 1, by omega, by go_num, ?_, HBEL.out.trans HW.out.bel⟩
    rw [HP.out]
    exact HW.out.bld
   case measure => simp [intOf] <;> omega
  ·obtain rfl : k = n := by omega
   go_wp2_with fail
   refine (bld_string _ _ _ wr HR.out.1 hsz).mono ?_
   rintro e w' ⟨rfl, hW⟩
   have HW := Lib.hid hW
   clear hW
   go_wp2
   go_ret
   refine ⟨?_, HR.out.2.trans HW.out.bel⟩
   rw [List.take_of_length_le (by rw [HN.out]; exact Nat.le_refl _)]
   rfl
end Go.Proofs.YthidbmeaccpjdaaGreatDoor
