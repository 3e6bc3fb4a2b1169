/- strings.Builder: a builder at block b whose buffer lies behind block k0 (a row of bytes of the call's own, laid behind the builder): WriteByte leaves all up to k0 but b alone. A row of bytes of the call's own: append of one byte, and its string. The reference of layer 12: the contracts of Small, find, has, letter, Word and Text. The reference of layer 10: the contracts of blank, special and atom. The reference of layer 10: the contract of end (printed by gen_rend.py). -/
import Derived.Laws.IdiomStrings
import Derived.Laws.BytesArg
import Derived.Lib.UnsafeStr
import Derived.Test.YthidbmeaccpjdaaGreatDoorM03
import Derived.Test.YthidbmeaccpjdaaGreatDoorM01
import Derived.Test.YthidbmeaccpjdaaGreatDoorM02
section
namespace Go.Proofs.YthidbmeaccpjdaaGreatDoor
open Go.RowKit
set_option linter.unusedVariables false
structure BldA (w : World) (b k0 : Nat) (l : List UInt8) : Prop where
 at_ : ∃ p v, Lib.BuilderAtF 64 5 b b p (Lib.byteCells l) w ∧ (p = .pointer none ∨ p = .pointer (some ⟨b, 0, none⟩)) ∧ w.heap[b]? = some (.cells #[p, v] 64 (0, 0)) ∧ w.ownsRowF (k0 + 1) 5 1 v (Lib.byteCells l).length (Lib.byteCells l)
 lt : b < k0 + 1 ∧ k0 < w.heap.size
theorem BldA.bld {w : World} {b k0 : Nat} {l : List UInt8} (h : BldA w b k0 l) : Bld w b b l := by
 obtain ⟨p, v, h1, h2 | h2, _⟩ := h.at_
 ·exact .inl (h2 ▸ h1)
 ·exact .inr (h2 ▸ h1)
theorem BldA.new {w : World} {b k0 : Nat} (hb : w.heap[b]? = some (.cells #[.pointer none, .slice none 0 0] 64 (0, 0))) (hlt : b < k0 + 1) (hk : k0 < w.heap.size) : BldA w b k0 [] := by
 refine ⟨⟨_, _, ⟨Nat.le_refl _, _, hb, ⟨rfl, .inl ⟨rfl, rfl⟩⟩, by simp [Value.ownBlock]⟩, .inl rfl, hb, ⟨rfl, .inl ⟨rfl, rfl⟩⟩⟩, hlt, hk⟩
def KeptA (w w' : World) (b k0 : Nat) : Prop := ∀ k, k ≤ k0 → k ≠ b → w'.heap[k]? = w.heap[k]?
def CheckPostA (w : World) (b k0 : Nat) (l : List UInt8) (e : Ending) (w' : World) : Prop := e = .returned (.tuple #[]) ∧ BldA w' b k0 l ∧ w'.cell? ⟨b, 0, none⟩ = some (.pointer (some ⟨b, 0, none⟩)) ∧ Below b w w' ∧ KeptA w w' b k0
theorem check_anyA (b k0 : Nat) (l : List UInt8) (w : World) (h : BldA w b k0 l) : Calls Tryz.prog 116 #[.pointer (some ⟨b, 0, none⟩)] w (CheckPostA w b k0 l) := by
 obtain ⟨⟨p, v, h1, h2, h3, h4⟩, h5⟩ := h
 rcases h2 with rfl | rfl
 ·refine (check_fresh b w h1.cell0 h1.shape h1.frozen0).mono ?_
  rintro e w' ⟨rfl, rfl⟩
  have hk : (w.setCell ⟨b, 0, none⟩ (.pointer (some ⟨b, 0, none⟩))).heap[b]? = some (.cells #[.pointer (some ⟨b, 0, none⟩), v] 64 (0, 0)) := by
   have := heap_setCell_same w b 0 _ _ (.pointer (some ⟨b, 0, none⟩)) h3
   simpa using this
  have hv : ∀ g, v.ownBlock = some g → (w.setCell ⟨b, 0, none⟩ (.pointer (some ⟨b, 0, none⟩))).heap[g]? = w.heap[g]? := fun g hg => heap_setCell_other w ⟨b, 0, none⟩ g _ (by have := (h4.lt g hg).1; show g ≠ b; omega)
  refine ⟨rfl, ⟨⟨_, v, h1.used _, .inr rfl, hk, ?_⟩, h5.1, by simpa using h5.2⟩, by rw [Lib.cell_of_heap hk]; rfl, (Below.refl b w).setCell (p := ⟨b, 0, none⟩) (Nat.le_refl _) _, fun k _ hk => heap_setCell_other w ⟨b, 0, none⟩ k _ hk⟩
  obtain ⟨e0, h6⟩ := h4
  refine ⟨e0, ?_⟩
  rcases h6 with h6 | ⟨g, cap, cur, fz, e, q1, q2, q3⟩
  ·exact .inl h6
  ·exact .inr ⟨g, cap, cur, fz, e, q1, (hv g (by rw [e]; rfl)).trans q2, q3⟩
 ·refine (check_used b w h1.cell0).mono ?_
  rintro e w' ⟨rfl, rfl⟩
  exact ⟨rfl, ⟨⟨_, v, h1, .inr rfl, h3, h4⟩, h5⟩, h1.cell0, Below.refl b _, fun _ _ _ => rfl⟩
def WroteA (w : World) (b k0 : Nat) (l : List UInt8) (v : Value) (e : Ending) (w' : World) : Prop := e = .returned v ∧ BldA w' b k0 l ∧ Below b w w' ∧ KeptA w w' b k0
set_option maxHeartbeats 2000000 in
set_option maxRecDepth 100000 in
theorem write_byteA (b k0 : Nat) (l : List UInt8) (c : UInt8) (w : World) (h : BldA w b k0 l) (hlen : l.length + 1 ≤ 140737488355328) :
  Calls Tryz.prog 56 #[.pointer (some ⟨b, 0, none⟩), .int .u8 c.toNat] w (WroteA w b k0 (l ++ [c]) .nilIface) := by
 obtain ⟨i0, hi, hz0, hz1, hz2⟩ := info_parts info_byte
 have H := Lib.hid h
 clear h
 obtain ⟨u, hu⟩ : ∃ x : Int, (c.toNat : Int) = x := ⟨_, rfl⟩
 rw [hu]
 have HU := Lib.hid hu
 clear hu
 go_enter Tryz.func56, Tryz.ntmps56
 go_wp2_with fail
 refine (check_anyA b k0 l _ H.out).mono ?_
 rintro e w1 ⟨rfl, ⟨⟨p, v, hB, hpp, hbk, hown⟩, hlt2⟩, c0, hb1, hk1⟩
 obtain rfl : p = .pointer (some ⟨b, 0, none⟩) := by
  have : w1.cell? ⟨b, 0, none⟩ = some p := by rw [Lib.cell_of_heap hbk]; rfl
  rw [this] at c0
  exact Option.some.inj c0
 have HBB := Lib.hid hB
 have HK1 := Lib.hid hk1
 have HLT := Lib.hid hlt2
 clear hB hpp hk1 hlt2
 obtain ⟨bs, hbs⟩ : ∃ x, Lib.byteCells l = x := ⟨_, rfl⟩
 have hbl : bs.length = l.length := by rw [← hbs, Lib.byteCells_length]
 rw [hbs] at hown
 rw [← hbl] at hlen
 have HBS := Lib.hid hbs
 clear hbs hbl
 have hb0 : k0 + 1 ≤ w1.heap.size := HLT.out.2
 have c1 : w1.cell? ⟨b, 1, none⟩ = some v := by rw [Lib.cell_of_heap hbk]; rfl
 have hne : v.ownBlock ≠ some b := fun e => by have := (hown.lt b e).1; have := HLT.out.1; omega
 go_wp2_with (at_builtin; refine wpList_append_ownF _ rfl _ _ 62 rfl (k0 + 1) 5 i0 (.int .u8 0) 1 1 Tryz.underlying62 hi hz0 hz1 hz2 rfl (by decide) _ _ _ rfl (hown.alloc _) ⟨w1.heap.size, 0, none⟩ 1 1 [.int .u8 u] rfl rfl ?c1 ?c2 ?c3 ?c4 ?c5 ?_)
 case c1 =>
  intro j u hj
  match j, hj with
  | 0, hj => simp at hj; subst hj; simp [Addr.add]
 case c2 => intro u hu; simp at hu; subst hu; rfl
 case c3 => unfold maxLen; omega
 case c4 => omega
 case c5 => simp; omega
 intro v' w2 hown' hgrow _
 have hlt : b < w1.heap.size := heap_lt hbk
 have hb2 : w2.heap[b]? = some (.cells #[.pointer (some ⟨b, 0, none⟩), v] 64 (0, 0)) := by
  rw [hgrow.block b (by simp; omega) (fun e => hne e.symm), Lib.alloc_old w1 _ b hlt]
  exact hbk
 have d0 : w2.cell? ⟨b, 0, none⟩ = some (.pointer (some ⟨b, 0, none⟩)) := by rw [Lib.cell_of_heap hb2]; rfl
 have d1 : w2.cell? ⟨b, 1, none⟩ = some v := by rw [Lib.cell_of_heap hb2]; rfl
 have f1 : w2.frozen? ⟨b, 1, none⟩ = false := Lib.frozen_of_heap hb2 1
 obtain ⟨g, cap, rfl⟩ : ∃ g cap, v' = .slice (some ⟨g, 0, none⟩) (bs.length + 1) cap := by
  rcases hown'.2 with ⟨_, h0⟩ | ⟨g, cap, cur, fz, hv, _⟩
  ·omega
  ·exact ⟨g, cap, hv⟩
 go_wp2
 go_ret
 have hgk : k0 + 1 ≤ g := (hown'.lt g rfl).1
 have e1 : Lib.byteCells (l ++ [c]) = bs ++ [Value.int .u8 u] := by rw [Lib.byteCells_append, HBS.out, ← HU.out]; rfl
 have hbn : (w2.setCell ⟨b, 1, none⟩ (.slice (some ⟨g, 0, none⟩) (bs.length + 1) cap)).heap[b]? = some (.cells #[.pointer (some ⟨b, 0, none⟩), .slice (some ⟨g, 0, none⟩) (bs.length + 1) cap] 64 (0, 0)) := by
  have := heap_setCell_same w2 b 1 _ _ (.slice (some ⟨g, 0, none⟩) (bs.length + 1) cap) hb2
  simpa using this
 have hgb : g ≠ b := by have := HLT.out.1; omega
 have howns : (w2.setCell ⟨b, 1, none⟩ (.slice (some ⟨g, 0, none⟩) (bs.length + 1) cap)).ownsRowF (k0 + 1) 5 1 (.slice (some ⟨g, 0, none⟩) (bs.length + 1) cap) (bs ++ [Value.int .u8 u]).length (bs ++ [Value.int .u8 u]) := by
  have h7 : w2.ownsRowF (k0 + 1) 5 1 (.slice (some ⟨g, 0, none⟩) (bs.length + 1) cap) (bs ++ [Value.int .u8 u]).length (bs ++ [Value.int .u8 u]) := by simpa using hown'
  obtain ⟨e0, h6⟩ := h7
  refine ⟨e0, ?_⟩
  rcases h6 with h6 | ⟨g2, cap2, cur, fz, e, q1, q2, q3⟩
  ·exact .inl h6
  ·have hg2 : g2 = g := by injection e with e; injection e with e; injection e with e; exact e.symm
   exact .inr ⟨g2, cap2, cur, fz, e, q1, (heap_setCell_other w2 ⟨b, 1, none⟩ g2 _ (by rw [hg2]; exact hgb)).trans q2, q3⟩
 refine ⟨rfl, ⟨⟨_, _, ?_, .inr rfl, hbn, ?_⟩, HLT.out.1, by have := hgrow.size; simp at this ⊢; omega⟩, ?_, ?_⟩
 ·rw [e1]
  have hown3 : w2.ownsRowF b 5 1 (.slice (some ⟨g, 0, none⟩) (bs.length + 1) cap) (bs ++ [Value.int .u8 u]).length (bs ++ [Value.int .u8 u]) := by
   have h7 : w2.ownsRowF (k0 + 1) 5 1 (.slice (some ⟨g, 0, none⟩) (bs.length + 1) cap) (bs ++ [Value.int .u8 u]).length (bs ++ [Value.int .u8 u]) := by simpa using hown'
   obtain ⟨e0, h6⟩ := h7
   refine ⟨e0, ?_⟩
   rcases h6 with h6 | ⟨g2, cap2, cur, fz, e, q1, q2, q3⟩
   ·exact .inl h6
   ·exact .inr ⟨g2, cap2, cur, fz, e, by have := HLT.out.1; omega, q2, q3⟩
  exact Lib.BuilderAtF.put (T := 64) (e := 5) (Nat.le_refl b) hb2 hown3 (by decide)
 ·rw [e1]; exact howns
 ·exact ((hb1.alloc (by have := HLT.out.1; omega) _).grown hgrow (by simp; omega) (fun k hk => by have := (hown.lt k hk).1; have := HLT.out.1; omega)).setCell (p := ⟨b, 1, none⟩) (Nat.le_refl _) _
 ·intro k hk hkb
  rw [heap_setCell_other w2 ⟨b, 1, none⟩ k _ hkb, hgrow.block k (by simp; omega) (fun e => by have := (hown.lt k e.symm).1; omega), Lib.alloc_old w1 _ k (by omega)]
  exact HK1.out k hk hkb
end Go.Proofs.YthidbmeaccpjdaaGreatDoor
end
section
namespace Go.Proofs.YthidbmeaccpjdaaGreatDoor
open Go.RowKit
set_option linter.unusedVariables false
theorem info_u8 : (Tryz.prog.info? 5).map (fun i => (i.zero, i.size, i.bytes)) = some (some (.int .u8 0), 1, 1) := by kernel_rfl
def OwnBytes (w : World) (B : Nat) (v : Value) (l : List UInt8) : Prop := w.ownsRow B 5 1 v l.length (Lib.byteCells l)
theorem OwnBytes.nil_ (w : World) (B : Nat) : OwnBytes w B (.slice none 0 0) [] := World.ownsRow_nil _ _ _ _
theorem OwnBytes.block {w w' : World} {B : Nat} {v : Value} {l : List UInt8} (h : OwnBytes w B v l) (hb : ∀ b, v.ownBlock = some b → w'.heap[b]? = w.heap[b]?) : OwnBytes w' B v l := ownsRow_block h hb
theorem wpList_pushByte {ops : Array Oper} {rest : List Oper} {o : Oper} {a : Act} {W : World} {Q : Exit → Act → World → Prop} {B : Nat} {y : UInt8} {u : Int} {v : Value} {l : List UInt8} (hown : OwnBytes W B v l) (hB : B ≤ W.heap.size)
  (hu : u = (y.toNat : Int)) (hlen : l.length < 1099511627776) (hgd : o.guard = none) (s x : Operand) (c : Nat)
  (ho : o.op = .call { callee := .builtin .append, args := #[s, x], argTypes := #[62, 62] })
  (hs : a.eval s = v) (hx : a.eval x = .slice (some ⟨W.heap.size, 0, none⟩) 1 c)
  (h : ∀ v' w', OwnBytes w' B v' (l ++ [y]) → W.grownBy w' v.ownBlock → (v'.ownBlock = v.ownBlock ∨ ∃ k, v'.ownBlock = some k ∧ W.heap.size ≤ k) → wpList Tryz.prog ops Q rest (a.put o.dst v') w') :
  wpList Tryz.prog ops Q (o :: rest) a (W.alloc (.cells #[.int .u8 u] 5)) := by
 obtain ⟨i0, hi, hz0, hz1, hz2⟩ := info_parts info_u8
 subst hu
 have hl : (Lib.byteCells l).length = l.length := Lib.byteCells_length l
 refine wpList_append_own_at _ hgd s x 62 ho B 5 i0 _ 1 1 Tryz.underlying62 hi hz0 hz1 hz2 rfl (by omega) v l.length (Lib.byteCells l) hs (World.ownsRow.alloc hown _) ⟨W.heap.size, 0, none⟩ 1 c [.int .u8 y.toNat] hx rfl (cell_one_new _ _ _) ?_ (by simp only [maxLen]; omega) (by omega) (by simp; omega) ?_
 ·intro u hu; simp at hu; subst hu; rfl
 ·intro v' w' h1 h2 _ h4
  refine h v' w' ?_ ?_ ?_
  ·unfold OwnBytes
   rw [Lib.byteCells_append, List.length_append]
   exact h1
  ·have h5 := World.grownBy_alloc W (.cells #[.int .u8 y.toNat] 5) v.ownBlock
   exact ⟨h2.os.trans h5.os, h2.tape.trans h5.tape, h2.output.trans h5.output, Nat.le_trans h5.size h2.size, fun k hk hne => (h2.block k (by simp; omega) hne).trans (h5.block k hk hne)⟩
  ·rcases h4 with h4 | h4
   ·exact .inl h4
   ·exact .inr ⟨_, h4, by simp⟩
theorem OwnBytes.str {w : World} {B : Nat} {v : Value} {l : List UInt8} (h : OwnBytes w B v l) : (convert 62 9 v).run Tryz.prog w = .ok (.string (ba l)) w := by
 rcases h.2 with ⟨rfl, h0⟩ | ⟨g, cap, cur, rfl, _⟩
 ·have : l = [] := List.eq_nil_of_length_eq_zero h0
  subst this
  exact run_convert_bytes_nil (P := Tryz.prog) (w := w) 62 5 Tryz.underlying62 Tryz.underlying5 0 0 9 Tryz.underlying9
 ·exact run_convert_bytes_back w 62 9 5 ⟨g, 0, none⟩ cap l Tryz.underlying62 Tryz.underlying5 Tryz.underlying9 fun j hj => h.cells (g := g) rfl j _ (by simp [Lib.byteCells, hj])
end Go.Proofs.YthidbmeaccpjdaaGreatDoor
end
section
namespace Go.Proofs.YthidbmeaccpjdaaGreatDoor
open Go.RowKit
set_option linter.unusedVariables false
theorem u8_int_eq' {c d : UInt8} : (c.toNat : Int) = (d.toNat : Int) ↔ c = d := ⟨fun h => UInt8.toNat_inj.1 (by omega), fun h => by rw [h]⟩
theorem u8i (c : UInt8) : 0 ≤ (c.toNat : Int) ∧ (c.toNat : Int) ≤ 255 := by have := c.toNat_lt; omega
theorem OwnBytes.shape {w : World} {B : Nat} {v : Value} {l : List UInt8} (h : OwnBytes w B v l) : ∃ A c, v = .slice A l.length c := by
 rcases h.2 with ⟨rfl, h0⟩ | ⟨g, cap, cur, rfl, hb, hg, q1, q2, q3⟩
 ·exact ⟨none, 0, by rw [h0]⟩
 ·exact ⟨_, cap, rfl⟩
def RSmRel (w : World) (l : List UInt8) (k : Nat) (v : Value) (wr : World) : Prop := OwnBytes wr w.heap.size v (smallP (l.take k)) ∧ Below w.heap.size w wr
theorem smallP_snoc {l : List UInt8} {k : Nat} (hk : k < l.length) : smallP (l.take (k + 1)) = smallP (l.take k) ++ [smallB l[k]] := by
 rw [List.take_succ_eq_append_getElem hk]
 unfold smallP
 rw [List.map_append]
 rfl
set_option maxRecDepth 100000 in
set_option maxHeartbeats 4000000 in
theorem rsmall_any (l : List UInt8) (w : World) (hl : l.length ≤ 1000000000) :
  Calls Tryz.prog 96 #[.string (ba l)] w (StrB w (smallP l)) := by
 obtain ⟨n, hn⟩ : ∃ n, l.length = n := ⟨_, rfl⟩
 have HL := Lib.hid hn
 obtain ⟨s, hs⟩ : ∃ s, ba l = s := ⟨_, rfl⟩
 have HS := Lib.hid hs
 have HZ := Lib.hid (show s.size = n by rw [← hs, ba_size, hn])
 have hsz : (s.size : Int) = n := by rw [HZ.out]
 rw [hs]
 rw [hn] at hl
 clear hs hn
 go_enter Tryz.func96, Tryz.ntmps96
 go_wp2
 go_loopw [3, 4, 5] (fun v i c wr => ∃ (k : Nat) (x : Value), c = x ∧ k ≤ n ∧ i = .int .i64 (k : Int) ∧ Hid (RSmRel w l k v wr)) (fun _ i _ _ => n - (intOf i).toNat)
 case atStart => exact ⟨0, _, rfl, Nat.zero_le _, rfl, OwnBytes.nil_ _ _, Below.refl _ _⟩
 case round =>
  obtain ⟨k, xc, rfl, hk, rfl, HR⟩ := hrel
  have hB := HR.out.2.size
  by_cases hlt : k < n
  ·have hk2 : (k : Int) < (n : Int) := by omega
   have hk0 : (0 : Int) ≤ (k : Int) := by omega
   have hks : k < s.size := by rw [HZ.out]; omega
   have hkl : k < l.length := by rw [HL.out]; omega
   have hget : s[k] = l[k] := by
    have h := HS.out
    subst h
    rfl
   have HT := Lib.hid (smallP_snoc hkl)
   have HAL := Lib.hid (show (smallP (l.take k)).length < 1099511627776 by rw [smallP_len, List.length_take]; omega)
   obtain ⟨c, hc⟩ : ∃ c, l[k] = c := ⟨_, rfl⟩
   rw [hc] at hget HT
   obtain ⟨x, hx⟩ : ∃ x : Int, (c.toNat : Int) = x := ⟨_, rfl⟩
   have hgi : ((s[k]).toNat : Int) = x := by rw [hget]; exact hx
   have HX := Lib.hid hx
   have hx0 : 0 ≤ x := by omega
   have hx1 : x ≤ 255 := by have := c.toNat_lt; omega
   clear hc hkl hget hx
   have HY := Lib.hid (smallB_yes (c := c))
   have HNO := Lib.hid (smallB_no (c := c))
   have HOWN := Lib.hid HR.out.1
   have HBEL := Lib.hid HR.out.2
   clear HR
   by_cases e1 : 65 ≤ x ∧ x ≤ 90
   ·have g1 : decide (65 ≤ x) = true := decide_eq_true e1.1
    have g2 : decide (x ≤ 90) = true := decide_eq_true e1.2
    have hx2 : x ≤ 90 := e1.2
    have HYB := Lib.hid (show x + 32 = ((smallB c).toNat : Int) by rw [HY.out (by rw [HX.out]; exact e1)]; have := HX.out; have := c.toNat_lt; simp; omega)
    clear e1
    go_wp2_with (at_builtin; go_must (refine wpList_pushByte (y := smallB c) HOWN.out hB HYB.out HAL.out rfl (.tmp 23) (.tmp 25) 1 rfl rfl rfl ?_); intro v2 w2 h1 h2 h3; (have H1 := Lib.hid h1; have H2 := Lib.hid h2; clear h1 h2 h3))
    go_roundw
    case rel =>
     refine ⟨k + 1, _, rfl, by omega, by go_num, ?_, HBEL.out.grown H2.out hB fun g e => (World.ownsRow.lt HOWN.out g e).1⟩
     rw [HT.out]
     exact H1.out
    case measure => simp [intOf] <;> omega
   ·have HYB := Lib.hid (show x = ((smallB c).toNat : Int) by rw [HNO.out (by rw [HX.out]; exact e1)]; exact HX.out.symm)
    by_cases e2 : 65 ≤ x
    ·have g1 : decide (65 ≤ x) = true := decide_eq_true e2
     have g2 : decide (x ≤ 90) = false := decide_eq_false fun h => e1 ⟨e2, h⟩
     clear e1 e2
     go_wp2_with (at_builtin; go_must (refine wpList_pushByte (y := smallB c) HOWN.out hB HYB.out HAL.out rfl (.tmp 23) (.tmp 25) 1 rfl rfl rfl ?_); intro v2 w2 h1 h2 h3; (have H1 := Lib.hid h1; have H2 := Lib.hid h2; clear h1 h2 h3))
     go_roundw
     case rel =>
      refine ⟨k + 1, _, rfl, by omega, by go_num, ?_, HBEL.out.grown H2.out hB fun g e => (World.ownsRow.lt HOWN.out g e).1⟩
      rw [HT.out]
      exact H1.out
     case measure => simp [intOf] <;> omega
    ·have g1 : decide (65 ≤ x) = false := decide_eq_false e2
     clear e1 e2
     go_wp2_with (at_builtin; go_must (refine wpList_pushByte (y := smallB c) HOWN.out hB HYB.out HAL.out rfl (.tmp 23) (.tmp 25) 1 rfl rfl rfl ?_); intro v2 w2 h1 h2 h3; (have H1 := Lib.hid h1; have H2 := Lib.hid h2; clear h1 h2 h3))
     go_roundw
     case rel =>
      refine ⟨k + 1, _, rfl, by omega, by go_num, ?_, HBEL.out.grown H2.out hB fun g e => (World.ownsRow.lt HOWN.out g e).1⟩
      rw [HT.out]
      exact H1.out
     case measure => simp [intOf] <;> omega
  ·obtain rfl : k = n := by omega
   have hown : OwnBytes wr w.heap.size u3 (smallP l) := by
    have := HR.out.1
    rw [List.take_of_length_le (by rw [HL.out]; exact Nat.le_refl _)] at this
    exact this
   have hconv := hown.str
   clear hown
   go_wp2
   go_ret
   exact ⟨rfl, HR.out.2⟩
def findV (c : UInt8) (l : List UInt8) : Int := match cutP c l with
 | some q => (q.1.length : Int)
 | none => -1
def FindRel (c : UInt8) (l : List UInt8) (k : Nat) : Prop := cutP c l = (cutP c (l.drop k)).map fun q => (l.take k ++ q.1, q.2)
theorem find_step {c : UInt8} {l : List UInt8} {k : Nat} (hk : k < l.length) (h : FindRel c l k) (hne : l[k] ≠ c) : FindRel c l (k + 1) := by
 unfold FindRel at h ⊢
 rw [h, List.drop_eq_getElem_cons hk]
 conv => lhs; unfold cutP
 rw [if_neg hne, Option.map_map]
 congr 1
 funext q
 show (l.take k ++ (l[k] :: q.1), q.2) = (l.take (k + 1) ++ q.1, q.2)
 rw [List.take_succ_eq_append_getElem hk, List.append_assoc]
 rfl
theorem find_hit {c : UInt8} {l : List UInt8} {k : Nat} (hk : k < l.length) (h : FindRel c l k) (he : l[k] = c) : findV c l = (k : Int) := by
 unfold FindRel at h
 unfold findV
 have e : cutP c (l[k] :: l.drop (k + 1)) = some ([], l.drop (k + 1)) := by
  unfold cutP
  rw [if_pos he]
 rw [h, List.drop_eq_getElem_cons hk, e]
 show ((l.take k ++ []).length : Int) = k
 rw [List.append_nil, List.length_take]
 omega
theorem find_end {c : UInt8} {l : List UInt8} {k : Nat} (hk : l.length ≤ k) (h : FindRel c l k) : findV c l = -1 := by
 unfold FindRel at h
 unfold findV
 rw [h, List.drop_of_length_le hk]
 rfl
set_option maxRecDepth 100000 in
set_option maxHeartbeats 4000000 in
theorem rfind_any (l : List UInt8) (z : UInt8) (w : World) (hl : l.length ≤ 1000000000) :
  Calls Tryz.prog 257 #[.string (ba l), .int .u8 (z.toNat : Int)] w fun e w' => e = .returned (.int .i64 (findV z l)) ∧ w' = w := by
 obtain ⟨n, hn⟩ : ∃ n, l.length = n := ⟨_, rfl⟩
 have HL := Lib.hid hn
 obtain ⟨s, hs⟩ : ∃ s, ba l = s := ⟨_, rfl⟩
 have HS := Lib.hid hs
 have HZ := Lib.hid (show s.size = n by rw [← hs, ba_size, hn])
 have hsz : (s.size : Int) = n := by rw [HZ.out]
 rw [hs]
 rw [hn] at hl
 clear hs hn
 obtain ⟨zi, hzi⟩ : ∃ x : Int, (z.toNat : Int) = x := ⟨_, rfl⟩
 have HZI := Lib.hid hzi
 rw [hzi]
 clear hzi
 go_enter Tryz.func257, Tryz.ntmps257
 go_wp2
 go_loop [5] (fun i => ∃ k : Nat, k ≤ n ∧ i = .int .i64 (k : Int) ∧ Hid (FindRel z l k)) (fun i => n - (intOf i).toNat)
 case atStart => exact ⟨0, Nat.zero_le _, rfl, Lib.hid (by unfold FindRel; simp)⟩
 case round =>
  obtain ⟨k, hk, rfl, HR⟩ := hrel
  by_cases hlt : k < n
  ·have hk2 : (k : Int) < (n : Int) := by omega
   have hk0 : (0 : Int) ≤ (k : Int) := by omega
   have hks : k < s.size := by rw [HZ.out]; omega
   have hkl : k < l.length := by rw [HL.out]; omega
   have hget : s[k] = l[k] := by
    have h := HS.out
    subst h
    rfl
   have HST := Lib.hid (find_step hkl HR.out)
   have HIT := Lib.hid (find_hit hkl HR.out)
   obtain ⟨c, hc⟩ : ∃ c, l[k] = c := ⟨_, rfl⟩
   rw [hc] at hget HST HIT
   obtain ⟨x, hx⟩ : ∃ x : Int, (c.toNat : Int) = x := ⟨_, rfl⟩
   have hgi : ((s[k]).toNat : Int) = x := by rw [hget]; exact hx
   have HX := Lib.hid hx
   have hx0 : 0 ≤ x := by omega
   have hx1 : x ≤ 255 := by have := c.toNat_lt; omega
   clear hc hkl hget hx
   by_cases e1 : x = zi
   ·have g1 : (x == zi) = true := by simpa using e1
    have HV := Lib.hid (HIT.out (u8_int_eq'.1 (by rw [HX.out, HZI.out]; exact e1)))
    clear e1
    go_wp2
    go_ret
    exact ⟨by rw [HV.out]; rfl, rfl⟩
   ·have g1 : (x == zi) = false := by simpa using e1
    have HV := Lib.hid (HST.out fun h => e1 (by rw [← HX.out, ← HZI.out, h]))
    clear e1
    go_wp2
    go_round
    case rel => exact ⟨k + 1, by omega, by go_num, HV⟩
    case measure => simp [intOf] <;> omega
  ·obtain rfl : k = n := by omega
   have HV := Lib.hid (find_end (by rw [HL.out]; exact Nat.le_refl _) HR.out)
   go_wp2
   go_ret
   exact ⟨by rw [HV.out]; rfl, rfl⟩
theorem findV_has (c : UInt8) (l : List UInt8) : decide (0 ≤ findV c l) = l.contains c := by
 unfold findV
 cases h : cutP c l with
 | none =>
  have := cutP_none.1 h
  simp [this]
 | some q =>
  obtain ⟨a, b⟩ := q
  have := (cutP_some h).1
  simp [this]
theorem rhas_any (l : List UInt8) (z : UInt8) (w : World) (hl : l.length ≤ 1000000000) :
  Calls Tryz.prog 221 #[.string (ba l), .int .u8 (z.toNat : Int)] w fun e w' => e = .returned (.bool (l.contains z)) ∧ w' = w := by
 have HF := Lib.hid (fun W => rfind_any l z W hl)
 have HV := Lib.hid (findV_has z l)
 obtain ⟨v, hv⟩ : ∃ v, findV z l = v := ⟨_, rfl⟩
 simp only [hv] at HF HV
 clear hv
 go_enter Tryz.func221, Tryz.ntmps221
 go_wp2_with fail
 refine (HF.out w).mono ?_
 rintro e w' ⟨rfl, rfl⟩
 go_wp2
 go_ret
 exact ⟨by rw [← HV.out]; rfl, rfl⟩
theorem u8_le_int (c d : UInt8) : (c ≤ d) ↔ (c.toNat : Int) ≤ (d.toNat : Int) := by rw [UInt8.le_iff_toNat_le]; omega
theorem letterB_int (c : UInt8) : letterB c = (decide (97 ≤ (c.toNat : Int)) && decide ((c.toNat : Int) ≤ 122) || decide (65 ≤ (c.toNat : Int)) && decide ((c.toNat : Int) ≤ 90) || decide (48 ≤ (c.toNat : Int)) && decide ((c.toNat : Int) ≤ 57)) := by
 unfold letterB
 rw [Bool.eq_iff_iff]
 simp only [Bool.or_eq_true, Bool.and_eq_true, decide_eq_true_iff, u8_le_int]
 rfl
theorem letterV {c : UInt8} {x : Int} (h : (c.toNat : Int) = x) {b : Bool} (hb : (decide (97 ≤ x) && decide (x ≤ 122) || decide (65 ≤ x) && decide (x ≤ 90) || decide (48 ≤ x) && decide (x ≤ 57)) = b) : letterB c = b := by
 subst h
 rw [letterB_int, hb]
theorem rletter_any (c : UInt8) (w : World) : Calls Tryz.prog 222 #[.int .u8 (c.toNat : Int)] w fun e w' => e = .returned (.bool (letterB c)) ∧ w' = w := by
 obtain ⟨x, hx⟩ : ∃ x : Int, (c.toNat : Int) = x := ⟨_, rfl⟩
 have HF := Lib.hid (fun b => letterV hx (b := b))
 rw [hx]
 clear hx
 go_enter Tryz.func222, Tryz.ntmps222
 go_wp2
 all_goals
  go_ret
  refine ⟨?_, rfl⟩
  rw [HF.out _ rfl]
  show Ending.returned (Value.bool _) = Ending.returned (Value.bool _)
  congr 2
  rw [Bool.eq_iff_iff]
  simp only [Bool.or_eq_true, Bool.and_eq_true, decide_eq_true_iff]
  first | omega | (simp; omega)
theorem wb_snoc {l : List UInt8} {k : Nat} (hk : k < l.length) : (l.take (k + 1)).all wordB = ((l.take k).all wordB && wordB l[k]) := by
 rw [List.take_succ_eq_append_getElem hk, List.all_append]
 simp
theorem isWord_stop {l : List UInt8} {k : Nat} (hk : k < l.length) (h : wordB l[k] = false) : isWord l = false := by
 unfold isWord
 have : l.all wordB = false := by
  rw [List.all_eq_false]
  exact ⟨l[k], List.getElem_mem hk, by rw [h]; decide⟩
 rw [this]
 rfl
theorem rwhas_any (z : UInt8) (w : World) : Calls Tryz.prog 221 #[.string ⟨#[33, 35, 36, 38, 94, 95, 46, 43, 45]⟩, .int .u8 (z.toNat : Int)] w fun e w' => e = .returned (.bool (wordBytes.contains z)) ∧ w' = w := rhas_any wordBytes z w (by decide)
set_option maxRecDepth 100000 in
set_option maxHeartbeats 4000000 in
theorem rword_any (l : List UInt8) (w : World) (hl : l.length ≤ 1000000000) :
  Calls Tryz.prog 176 #[.string (ba l)] w fun e w' => e = .returned (.bool (isWord l)) ∧ w' = w := by
 have HEM := Lib.hid (show isWord l = (l.all wordB && decide (0 < (l.length : Int))) by
  unfold isWord
  cases l with
  | nil => rfl
  | cons a r => simp)
 obtain ⟨n, hn⟩ : ∃ n, l.length = n := ⟨_, rfl⟩
 have HL := Lib.hid hn
 obtain ⟨s, hs⟩ : ∃ s, ba l = s := ⟨_, rfl⟩
 have HS := Lib.hid hs
 have HZ := Lib.hid (show s.size = n by rw [← hs, ba_size, hn])
 have hsz : (s.size : Int) = n := by rw [HZ.out]
 rw [hs]
 rw [hn] at hl
 clear hs hn
 rw [HL.out] at HEM
 go_enter Tryz.func176, Tryz.ntmps176
 go_wp2
 go_loop [3, 4] (fun i o => ∃ (k : Nat) (y : Value), o = y ∧ k ≤ n ∧ i = .int .i64 (k : Int) ∧ Hid ((l.take k).all wordB = true)) (fun i _ => n - (intOf i).toNat)
 case atStart => exact ⟨0, _, rfl, Nat.zero_le _, rfl, Lib.hid rfl⟩
 case round =>
  obtain ⟨k, y, rfl, hk, rfl, HR⟩ := hrel
  by_cases hlt : k < n
  ·have hk2 : (k : Int) < (n : Int) := by omega
   have hk0 : (0 : Int) ≤ (k : Int) := by omega
   have hks : k < s.size := by rw [HZ.out]; omega
   have hkl : k < l.length := by rw [HL.out]; omega
   have hget : s[k] = l[k] := by
    have h := HS.out
    subst h
    rfl
   have HST := Lib.hid (wb_snoc hkl)
   have HIT := Lib.hid (isWord_stop hkl)
   obtain ⟨c, hc⟩ : ∃ c, l[k] = c := ⟨_, rfl⟩
   rw [hc] at hget HST HIT
   obtain ⟨x, hx⟩ : ∃ x : Int, (c.toNat : Int) = x := ⟨_, rfl⟩
   have hgi : ((s[k]).toNat : Int) = x := by rw [hget]; exact hx
   have HX := Lib.hid hx
   have hx0 : 0 ≤ x := by omega
   have hx1 : x ≤ 255 := by have := c.toNat_lt; omega
   clear hc hkl hget hx
   have HHAS := rwhas_any c
   have HLET := rletter_any c
   rw [HX.out] at HHAS HLET
   have HW := Lib.hid (show wordB c = (letterB c || wordBytes.contains c) from rfl)
   obtain ⟨b1, hb1⟩ : ∃ b, letterB c = b := ⟨_, rfl⟩
   obtain ⟨b2, hb2⟩ : ∃ b, wordBytes.contains c = b := ⟨_, rfl⟩
   rw [hb1] at HLET HW
   rw [hb2] at HHAS HW
   have HA := Lib.hid HHAS
   have HE := Lib.hid HLET
   clear hb1 hb2 HHAS HLET
   cases b1
   ·cases b2
    ·have HV := Lib.hid (HIT.out HW.out)
     go_wp2_with fail
     refine (HA.out _).mono ?_
     rintro e w' ⟨rfl, rfl⟩
     go_wp2_with fail
     refine (HE.out _).mono ?_
     rintro e w' ⟨rfl, rfl⟩
     go_wp2
     go_ret
     exact ⟨by rw [HV.out]; rfl, rfl⟩
    ·have HV := Lib.hid (show (l.take (k + 1)).all wordB = true by rw [HST.out, HR.out, HW.out]; rfl)
     go_wp2_with fail
     refine (HA.out _).mono ?_
     rintro e w' ⟨rfl, rfl⟩
     go_wp2_with fail
     refine (HE.out _).mono ?_
     rintro e w' ⟨rfl, rfl⟩
     go_wp2
     go_round
     case rel => exact ⟨k + 1, _, rfl, by omega, by go_num, HV⟩
     case measure => simp [intOf] <;> omega
   ·have HV := Lib.hid (show (l.take (k + 1)).all wordB = true by rw [HST.out, HR.out, HW.out]; rfl)
    go_wp2_with fail
    refine (HA.out _).mono ?_
    rintro e w' ⟨rfl, rfl⟩
    go_wp2_with fail
    refine (HE.out _).mono ?_
    rintro e w' ⟨rfl, rfl⟩
    go_wp2
    go_round
    case rel => exact ⟨k + 1, _, rfl, by omega, by go_num, HV⟩
    case measure => simp [intOf] <;> omega
  ·obtain rfl : k = n := by omega
   have HV := Lib.hid (show isWord l = decide (0 < (k : Int)) by
    rw [HEM.out]
    have := HR.out
    rw [List.take_of_length_le (by rw [HL.out]; exact Nat.le_refl _)] at this
    rw [this]
    rfl)
   go_wp2
   go_ret
   exact ⟨by rw [HV.out]; simp, rfl⟩
end Go.Proofs.YthidbmeaccpjdaaGreatDoor
end
section
namespace Go.Proofs.YthidbmeaccpjdaaGreatDoor
open Go.RowKit
set_option linter.unusedVariables false
theorem u8_beq' (c d : UInt8) : (c == d) = decide ((c.toNat : Int) = (d.toNat : Int)) := by
 rw [Bool.eq_iff_iff, beq_iff_eq, decide_eq_true_iff]
 exact ⟨fun h => by rw [h], fun h => UInt8.toNat_inj.1 (by omega)⟩
theorem blankV {c : UInt8} {x : Int} (h : (c.toNat : Int) = x) {b : Bool} (hb : (decide (x = 9) || decide (x = 10) || decide (x = 13) || decide (x = 32)) = b) : blankB c = b := by
 subst h
 rw [← hb]
 unfold blankB
 rw [u8_beq', u8_beq', u8_beq', u8_beq']
 rfl
theorem rblank_any (c : UInt8) (w : World) : Calls Tryz.prog 277 #[.int .u8 (c.toNat : Int)] w fun e w' => e = .returned (.bool (blankB c)) ∧ w' = w := by
 obtain ⟨x, hx⟩ : ∃ x : Int, (c.toNat : Int) = x := ⟨_, rfl⟩
 have HF := Lib.hid (fun b => blankV hx (b := b))
 rw [hx]
 clear hx
 go_enter Tryz.func277, Tryz.ntmps277
 go_wp2
 all_goals
  go_ret
  refine ⟨?_, rfl⟩
  rw [HF.out _ rfl]
  show Ending.returned (Value.bool _) = Ending.returned (Value.bool _)
  first | rfl | (congr 2; rw [Bool.eq_iff_iff]; simp; omega) | (simp; omega)
def SpecRel (c : UInt8) (k : Nat) : Prop := c ∉ specials.take k
set_option maxRecDepth 100000 in
set_option maxHeartbeats 4000000 in
theorem rspecial_any (c : UInt8) (w : World) : Calls Tryz.prog 279 #[.int .u8 (c.toNat : Int)] w fun e w' => e = .returned (.bool (specials.contains c)) ∧ w' = w := by
 obtain ⟨x, hx⟩ : ∃ x : Int, (c.toNat : Int) = x := ⟨_, rfl⟩
 have HX := Lib.hid hx
 rw [hx]
 clear hx
 obtain ⟨sb, hsb⟩ : ∃ b, specials.contains c = b := ⟨_, rfl⟩
 have HSB := Lib.hid hsb
 rw [hsb]
 clear hsb
 go_enter Tryz.func279, Tryz.ntmps279
 go_wp2
 go_loop [3] (fun i => ∃ k : Nat, k ≤ 13 ∧ i = .int .i64 (k : Int) ∧ Hid (SpecRel c k)) (fun i => 13 - (intOf i).toNat)
 case atStart => exact ⟨0, by omega, rfl, Lib.hid (by unfold SpecRel; simp)⟩
 case round =>
  obtain ⟨k, hk, rfl, HR⟩ := hrel
  by_cases hlt : k < 13
  ·have hk2 : (k : Int) < 13 := by omega
   have hk0 : (0 : Int) ≤ (k : Int) := by omega
   have hkl : k < specials.length := hlt
   have HIT := Lib.hid (show specials[k] = c → sb = true from fun h => by rw [← HSB.out, ← h]; simp)
   have HST := Lib.hid (show specials[k] ≠ c → SpecRel c (k + 1) from fun h => by
    have := HR.out
    unfold SpecRel at this ⊢
    rw [List.take_succ_eq_append_getElem hkl, List.mem_append, List.mem_singleton, not_or]
    exact ⟨this, fun e => h e.symm⟩)
   obtain ⟨d, hd⟩ : ∃ d, specials[k] = d := ⟨_, rfl⟩
   rw [hd] at HIT HST
   obtain ⟨y, hy⟩ : ∃ y : Int, (d.toNat : Int) = y := ⟨_, rfl⟩
   have hgi : ∀ h : k < (⟨#[40, 41, 60, 62, 91, 93, 58, 59, 64, 92, 44, 46, 34]⟩ : ByteArray).size, (((⟨#[40, 41, 60, 62, 91, 93, 58, 59, 64, 92, 44, 46, 34]⟩ : ByteArray)[k]'h).toNat : Int) = y := fun h => by rw [show ((⟨#[40, 41, 60, 62, 91, 93, 58, 59, 64, 92, 44, 46, 34]⟩ : ByteArray)[k]'h) = d from hd]; exact hy
   have HY := Lib.hid hy
   clear hd hy hkl
   by_cases e1 : y = x
   ·have g1 : (y == x) = true := by simpa using e1
    have HV := Lib.hid (HIT.out (u8_int_eq'.1 (by rw [HX.out, HY.out]; exact e1)))
    clear e1
    go_wp2
    go_ret
    exact ⟨by rw [HV.out]; rfl, rfl⟩
   ·have g1 : (y == x) = false := by simpa using e1
    have HV := Lib.hid (HST.out fun h => e1 (by rw [← HX.out, ← HY.out, h]))
    clear e1
    go_wp2
    go_round
    case rel => exact ⟨k + 1, by omega, by go_num, HV⟩
    case measure => simp [intOf] <;> omega
  ·obtain rfl : k = 13 := by omega
   have HV := Lib.hid (show sb = false by
    have := HR.out
    unfold SpecRel at this
    rw [List.take_of_length_le (by decide)] at this
    rw [← HSB.out]
    simpa using this)
   go_wp2
   go_ret
   exact ⟨by rw [HV.out]; rfl, rfl⟩
theorem atomV {c : UInt8} {x : Int} (h : (c.toNat : Int) = x) : atomB c = (decide (32 < x) && decide (x ≠ 127) && !specials.contains c) := by
 subst h
 unfold atomB
 have h1 : decide (32 < c) = decide (32 < (c.toNat : Int)) := by
  rw [Bool.eq_iff_iff, decide_eq_true_iff, decide_eq_true_iff, UInt8.lt_iff_toNat_lt]
  show (32 : Nat) < c.toNat ↔ _
  omega
 have h2 : (c != 127) = decide ((c.toNat : Int) ≠ 127) := by
  unfold bne
  rw [u8_beq', decide_not]
  rfl
 rw [h1, h2]
theorem ratom_any (c : UInt8) (w : World) : Calls Tryz.prog 280 #[.int .u8 (c.toNat : Int)] w fun e w' => e = .returned (.bool (atomB c)) ∧ w' = w := by
 have hsp := rspecial_any c
 obtain ⟨x, hx⟩ : ∃ x : Int, (c.toNat : Int) = x := ⟨_, rfl⟩
 have HF := Lib.hid (atomV hx)
 rw [hx] at hsp ⊢
 clear hx
 obtain ⟨sb, hsb⟩ : ∃ b, specials.contains c = b := ⟨_, rfl⟩
 rw [hsb] at hsp HF
 have HS := Lib.hid hsp
 clear hsb hsp
 by_cases e1 : 32 < x
 ·have g1 : decide (32 < x) = true := decide_eq_true e1
  by_cases e2 : x = 127
  ·have g2 : (x != 127) = false := by simp [e2]
   have HG := Lib.hid (show atomB c = false by rw [HF.out]; simp [e2])
   clear HF e1 e2
   go_enter Tryz.func280, Tryz.ntmps280
   go_wp2
   go_ret
   exact ⟨by rw [HG.out]; rfl, rfl⟩
  ·have g2 : (x != 127) = true := by simpa using e2
   have HG := Lib.hid (show atomB c = !sb by rw [HF.out, g1]; simp [e2])
   clear HF e1 e2
   go_enter Tryz.func280, Tryz.ntmps280
   go_wp2_with fail
   refine (HS.out w).mono ?_
   rintro e w' ⟨rfl, rfl⟩
   go_wp2
   go_ret
   exact ⟨by rw [HG.out]; rfl, rfl⟩
 ·have g1 : decide (32 < x) = false := decide_eq_false e1
  have HG := Lib.hid (show atomB c = false by rw [HF.out, g1]; rfl)
  clear HF e1
  go_enter Tryz.func280, Tryz.ntmps280
  go_wp2
  go_ret
  exact ⟨by rw [HG.out]; rfl, rfl⟩
end Go.Proofs.YthidbmeaccpjdaaGreatDoor
end
section
namespace Go.Proofs.YthidbmeaccpjdaaGreatDoor
open Go.RowKit
set_option linter.unusedVariables false
def endV (z : UInt8) (l : List UInt8) : Nat := match closeP z 1 (l.drop 1) with
 | some m => m + 1
 | none => 0
theorem endV_hit {z : UInt8} {l : List UInt8} {k : Nat} (hk : k < l.length) (h1 : 1 ≤ k) (h : ClRel z l 1 k) (h2 : l[k] ≠ 92) (h3 : l[k] = z) : endV z l = k + 1 := by
 unfold ClRel at h
 unfold endV
 rw [drop_at hk, closeP_cons, if_neg h2, if_pos h3, if_pos rfl] at h
 rw [h]
 show 1 + (k - 1) + 1 = _
 omega
theorem endV_end {z : UInt8} {l : List UInt8} {d k : Nat} (hk : l.length ≤ k) (h : ClRel z l d k) : endV z l = 0 := by
 unfold ClRel at h
 unfold endV
 rw [List.drop_of_length_le hk] at h
 have h0 : closeP z d [] = none := by unfold closeP; rfl
 rw [h0] at h
 rw [h]
 rfl
theorem cl_skip {z : UInt8} {l : List UInt8} {d k : Nat} (hk : k < l.length) (h1 : 1 ≤ k) (h : ClRel z l d k) (h2 : l[k] = 92) : ClRel z l d (k + 2) := by
 unfold ClRel at h ⊢
 rw [drop_at hk, closeP_cons, if_pos h2, List.drop_drop, map_map_add, show k + 1 + 1 = k + 2 by omega, show 2 + (k - 1) = k + 2 - 1 by omega] at h
 exact h
theorem cl_less {z : UInt8} {l : List UInt8} {d k : Nat} (hk : k < l.length) (h1 : 1 ≤ k) (h : ClRel z l d k) (h2 : l[k] ≠ 92) (h3 : l[k] = z) (h4 : d ≠ 1) : ClRel z l (d - 1) (k + 1) := by
 unfold ClRel at h ⊢
 rw [drop_at hk, closeP_cons, if_neg h2, if_pos h3, if_neg h4, map_map_add, show 1 + (k - 1) = k + 1 - 1 by omega] at h
 exact h
theorem cl_more {l : List UInt8} {d k : Nat} (hk : k < l.length) (h1 : 1 ≤ k) (h : ClRel 41 l d k) (h2 : l[k] ≠ 92) (h3 : l[k] ≠ 41) (h4 : l[k] = 40) : ClRel 41 l (d + 1) (k + 1) := by
 unfold ClRel at h ⊢
 rw [drop_at hk, closeP_cons, if_neg h2, if_neg h3, if_pos ⟨h4, rfl⟩, map_map_add, show 1 + (k - 1) = k + 1 - 1 by omega] at h
 exact h
theorem cl_on {z : UInt8} {l : List UInt8} {d k : Nat} (hk : k < l.length) (h1 : 1 ≤ k) (h : ClRel z l d k) (h2 : l[k] ≠ 92) (h3 : l[k] ≠ z) (h4 : ¬ (l[k] = 40 ∧ z = 41)) : ClRel z l d (k + 1) := by
 unfold ClRel at h ⊢
 rw [drop_at hk, closeP_cons, if_neg h2, if_neg h3, if_neg h4, map_map_add, show 1 + (k - 1) = k + 1 - 1 by omega] at h
 exact h
set_option maxRecDepth 100000 in
set_option maxHeartbeats 4000000 in
theorem rend_40 (r : List UInt8) (w : World) (hl : (40 :: r : List UInt8).length ≤ 1000000000) :
  Calls Tryz.prog 278 #[.string (ba (40 :: r))] w fun e w' => e = .returned (.int .i64 (endV 41 (40 :: r) : Nat)) ∧ w' = w := by
 obtain ⟨l, hll⟩ : ∃ l, (40 :: r : List UInt8) = l := ⟨_, rfl⟩
 have h0 : ∀ h : 0 < l.length, l[0] = 40 := fun h => by subst hll; rfl
 have hne : 0 < l.length := by rw [← hll]; simp
 have HCL0 := Lib.hid (show ClRel 41 l 1 1 by unfold ClRel; simp)
 rw [hll] at hl ⊢
 have H00 := Lib.hid (h0 hne)
 clear hll h0
 obtain ⟨n, hn⟩ : ∃ n, l.length = n := ⟨_, rfl⟩
 have HL := Lib.hid hn
 obtain ⟨s, hs⟩ : ∃ s, ba l = s := ⟨_, rfl⟩
 have HS := Lib.hid hs
 have HZ := Lib.hid (show s.size = n by rw [← hs, ba_size, hn])
 have hsz : (s.size : Int) = n := by rw [HZ.out]
 rw [hs]
 rw [hn] at hl
 clear hs hn
 have hg0 : ∀ h : 0 < s.size, ((s[0]).toNat : Int) = 40 := fun h => by
  have h2 := HS.out
  subst h2
  show ((l[0]'hne).toNat : Int) = 40
  rw [H00.out]
  rfl
 have hp0 : 0 < s.size := by rw [HZ.out, ← HL.out]; exact hne
 clear H00 hne
 go_enter Tryz.func278, Tryz.ntmps278
 go_wp2
 go_loop [3, 4, 5] (fun dv i cv => ∃ (d k : Nat) (y : Value), cv = y ∧ 1 ≤ k ∧ k ≤ n + 1 ∧ d < k ∧ i = .int .i64 (k : Int) ∧ dv = .int .i64 (d : Int) ∧ Hid (ClRel 41 l (d + 1) k)) (fun _ i _ => n + 1 - (intOf i).toNat)
 case atStart => exact ⟨0, 1, _, rfl, by omega, by omega, by omega, rfl, rfl, HCL0⟩
 case round =>
  obtain ⟨d, k, y, rfl, hk1, hkn, hdk, rfl, rfl, HR⟩ := hrel
  by_cases hlt : k < n
  ·have hk2 : (k : Int) < (n : Int) := by omega
   have hk0 : (0 : Int) ≤ (k : Int) := by omega
   have hks : k < s.size := by rw [HZ.out]; omega
   have hkl : k < l.length := by rw [HL.out]; omega
   have hget : s[k] = l[k] := by
    have h := HS.out
    subst h
    rfl
   have HSK := Lib.hid (cl_skip hkl hk1 HR.out)
   have HHIT := Lib.hid (endV_hit (z := 41) hkl hk1)
   have HLESS := Lib.hid (cl_less hkl hk1 HR.out)
   have HON := Lib.hid (cl_on hkl hk1 HR.out)
   have HMORE := Lib.hid (cl_more hkl hk1 HR.out)
   obtain ⟨c, hc⟩ : ∃ c, l[k] = c := ⟨_, rfl⟩
   rw [hc] at hget HSK HHIT HLESS HON HMORE
   obtain ⟨x, hx⟩ : ∃ x : Int, (c.toNat : Int) = x := ⟨_, rfl⟩
   have hgi : ((s[k]).toNat : Int) = x := by rw [hget]; exact hx
   have HX := Lib.hid hx
   have hx0 : 0 ≤ x := by omega
   have hx1 : x ≤ 255 := by have := c.toNat_lt; omega
   clear hc hkl hget hx
   by_cases e1 : x = 92
   ·have g1 : (x == 92) = true := by simpa using e1
    have HN2 := Lib.hid (HSK.out (u8_int_eq.1 (by rw [HX.out]; exact e1)))
    clear e1
    go_wp2
    go_round
    case rel => exact ⟨d, k + 2, _, rfl, by omega, by omega, by omega, by go_num, rfl, HN2⟩
    case measure => simp [intOf] <;> omega
   have g1 : (x == 92) = false := by simpa using e1
   have HC := Lib.hid (show c ≠ 92 from fun h => e1 (by rw [← HX.out, h]; rfl))
   by_cases e2 : x = 41
   ·have g2 : (x == 41) = true := by simpa using e2
    have g3 : (x == 40) = false := by simp [e2]
    have HE := Lib.hid (show c = 41 from u8_int_eq.1 (by rw [HX.out]; exact e2))
    by_cases hd : d = 0
    ·have HV := Lib.hid (HHIT.out (by have := HR.out; rw [hd] at this; exact this) HC.out HE.out)
     have gd : ((d : Int) == 0) = true := by simp; omega
     clear e1 e2 HR hd
     go_wp2
     go_ret
     exact ⟨by rw [HV.out]; go_num, rfl⟩
    ·have HN2 := Lib.hid (HLESS.out HC.out HE.out (by omega))
     have gd : ((d : Int) == 0) = false := by simp; omega
     have hcast : ((d - 1 : Nat) : Int) = (d : Int) - 1 := by omega
     have HCAST := Lib.hid hcast
     clear hcast
     have hd2 : (1 : Int) ≤ (d : Int) := by omega
     clear e1 e2 HR
     go_wp2
     go_round
     case rel => exact ⟨d - 1, k + 1, _, rfl, by omega, by omega, by omega, by go_num, by rw [HCAST.out], Lib.hid (by have := HN2.out; rw [show d - 1 + 1 = d + 1 - 1 by omega]; exact this)⟩
     case measure => simp [intOf] <;> omega
   ·have g2 : (x == 41) = false := by simpa using e2
    have HE := Lib.hid (show c ≠ 41 from fun h => e2 (by rw [← HX.out, h]; rfl))
    by_cases e3 : x = 40
    ·have g3 : (x == 40) = true := by simpa using e3
     have HN2 := Lib.hid (HMORE.out HC.out HE.out (u8_int_eq.1 (by rw [HX.out]; exact e3)))
     clear e1 e2 e3 HR
     go_wp2
     go_round
     case rel => exact ⟨d + 1, k + 1, _, rfl, by omega, by omega, by omega, by go_num, by go_num, HN2⟩
     case measure => simp [intOf] <;> omega
    ·have g3 : (x == 40) = false := by simpa using e3
     have HN2 := Lib.hid (HON.out HC.out HE.out fun h => e3 (by rw [← HX.out, h.1]; rfl))
     clear e1 e2 e3 HR
     go_wp2
     go_round
     case rel => exact ⟨d, k + 1, _, rfl, by omega, by omega, by omega, by go_num, rfl, HN2⟩
     case measure => simp [intOf] <;> omega
  ·have hk2 : ¬ (k : Int) < (n : Int) := by omega
   have HV := Lib.hid (endV_end (by rw [HL.out]; omega) HR.out)
   go_wp2
   go_ret
   exact ⟨by rw [HV.out]; rfl, rfl⟩
set_option maxRecDepth 100000 in
set_option maxHeartbeats 4000000 in
theorem rend_34 (r : List UInt8) (w : World) (hl : (34 :: r : List UInt8).length ≤ 1000000000) :
  Calls Tryz.prog 278 #[.string (ba (34 :: r))] w fun e w' => e = .returned (.int .i64 (endV 34 (34 :: r) : Nat)) ∧ w' = w := by
 obtain ⟨l, hll⟩ : ∃ l, (34 :: r : List UInt8) = l := ⟨_, rfl⟩
 have h0 : ∀ h : 0 < l.length, l[0] = 34 := fun h => by subst hll; rfl
 have hne : 0 < l.length := by rw [← hll]; simp
 have HCL0 := Lib.hid (show ClRel 34 l 1 1 by unfold ClRel; simp)
 rw [hll] at hl ⊢
 have H00 := Lib.hid (h0 hne)
 clear hll h0
 obtain ⟨n, hn⟩ : ∃ n, l.length = n := ⟨_, rfl⟩
 have HL := Lib.hid hn
 obtain ⟨s, hs⟩ : ∃ s, ba l = s := ⟨_, rfl⟩
 have HS := Lib.hid hs
 have HZ := Lib.hid (show s.size = n by rw [← hs, ba_size, hn])
 have hsz : (s.size : Int) = n := by rw [HZ.out]
 rw [hs]
 rw [hn] at hl
 clear hs hn
 have hg0 : ∀ h : 0 < s.size, ((s[0]).toNat : Int) = 34 := fun h => by
  have h2 := HS.out
  subst h2
  show ((l[0]'hne).toNat : Int) = 34
  rw [H00.out]
  rfl
 have hp0 : 0 < s.size := by rw [HZ.out, ← HL.out]; exact hne
 clear H00 hne
 go_enter Tryz.func278, Tryz.ntmps278
 go_wp2
 go_loop [3, 4, 5] (fun dv i cv => ∃ (d k : Nat) (y : Value), cv = y ∧ 1 ≤ k ∧ k ≤ n + 1 ∧ d = 0 ∧ i = .int .i64 (k : Int) ∧ dv = .int .i64 (d : Int) ∧ Hid (ClRel 34 l 1 k)) (fun _ i _ => n + 1 - (intOf i).toNat)
 case atStart => exact ⟨0, 1, _, rfl, by omega, by omega, by omega, rfl, rfl, HCL0⟩
 case round =>
  obtain ⟨d, k, y, rfl, hk1, hkn, hdk, rfl, rfl, HR⟩ := hrel
  by_cases hlt : k < n
  ·have hk2 : (k : Int) < (n : Int) := by omega
   have hk0 : (0 : Int) ≤ (k : Int) := by omega
   have hks : k < s.size := by rw [HZ.out]; omega
   have hkl : k < l.length := by rw [HL.out]; omega
   have hget : s[k] = l[k] := by
    have h := HS.out
    subst h
    rfl
   have HSK := Lib.hid (cl_skip hkl hk1 HR.out)
   have HHIT := Lib.hid (endV_hit (z := 34) hkl hk1)
   have HLESS := Lib.hid (cl_less hkl hk1 HR.out)
   have HON := Lib.hid (cl_on hkl hk1 HR.out)
   obtain ⟨c, hc⟩ : ∃ c, l[k] = c := ⟨_, rfl⟩
   rw [hc] at hget HSK HHIT HLESS HON
   obtain ⟨x, hx⟩ : ∃ x : Int, (c.toNat : Int) = x := ⟨_, rfl⟩
   have hgi : ((s[k]).toNat : Int) = x := by rw [hget]; exact hx
   have HX := Lib.hid hx
   have hx0 : 0 ≤ x := by omega
   have hx1 : x ≤ 255 := by have := c.toNat_lt; omega
   clear hc hkl hget hx
   by_cases e1 : x = 92
   ·have g1 : (x == 92) = true := by simpa using e1
    have HN2 := Lib.hid (HSK.out (u8_int_eq.1 (by rw [HX.out]; exact e1)))
    clear e1
    go_wp2
    go_round
    case rel => exact ⟨d, k + 2, _, rfl, by omega, by omega, by omega, by go_num, rfl, HN2⟩
    case measure => simp [intOf] <;> omega
   have g1 : (x == 92) = false := by simpa using e1
   have HC := Lib.hid (show c ≠ 92 from fun h => e1 (by rw [← HX.out, h]; rfl))
   by_cases e2 : x = 34
   ·have g2 : (x == 34) = true := by simpa using e2
    have HE := Lib.hid (show c = 34 from u8_int_eq.1 (by rw [HX.out]; exact e2))
    have HV := Lib.hid (HHIT.out HR.out HC.out HE.out)
    clear e1 e2 HR
    go_wp2
    go_ret
    exact ⟨by rw [HV.out]; go_num, rfl⟩
   ·have g2 : (x == 34) = false := by simpa using e2
    have HE := Lib.hid (show c ≠ 34 from fun h => e2 (by rw [← HX.out, h]; rfl))
    have HN2 := Lib.hid (HON.out HC.out HE.out (fun h => absurd h.2 (by decide)))
    clear e1 e2 HR
    go_wp2
    go_round
    case rel => exact ⟨d, k + 1, _, rfl, by omega, by omega, by omega, by go_num, rfl, HN2⟩
    case measure => simp [intOf] <;> omega
  ·have hk2 : ¬ (k : Int) < (n : Int) := by omega
   have HV := Lib.hid (endV_end (by rw [HL.out]; omega) HR.out)
   go_wp2
   go_ret
   exact ⟨by rw [HV.out]; rfl, rfl⟩
set_option maxRecDepth 100000 in
set_option maxHeartbeats 4000000 in
theorem rend_91 (r : List UInt8) (w : World) (hl : (91 :: r : List UInt8).length ≤ 1000000000) :
  Calls Tryz.prog 278 #[.string (ba (91 :: r))] w fun e w' => e = .returned (.int .i64 (endV 93 (91 :: r) : Nat)) ∧ w' = w := by
 obtain ⟨l, hll⟩ : ∃ l, (91 :: r : List UInt8) = l := ⟨_, rfl⟩
 have h0 : ∀ h : 0 < l.length, l[0] = 91 := fun h => by subst hll; rfl
 have hne : 0 < l.length := by rw [← hll]; simp
 have HCL0 := Lib.hid (show ClRel 93 l 1 1 by unfold ClRel; simp)
 rw [hll] at hl ⊢
 have H00 := Lib.hid (h0 hne)
 clear hll h0
 obtain ⟨n, hn⟩ : ∃ n, l.length = n := ⟨_, rfl⟩
 have HL := Lib.hid hn
 obtain ⟨s, hs⟩ : ∃ s, ba l = s := ⟨_, rfl⟩
 have HS := Lib.hid hs
 have HZ := Lib.hid (show s.size = n by rw [← hs, ba_size, hn])
 have hsz : (s.size : Int) = n := by rw [HZ.out]
 rw [hs]
 rw [hn] at hl
 clear hs hn
 have hg0 : ∀ h : 0 < s.size, ((s[0]).toNat : Int) = 91 := fun h => by
  have h2 := HS.out
  subst h2
  show ((l[0]'hne).toNat : Int) = 91
  rw [H00.out]
  rfl
 have hp0 : 0 < s.size := by rw [HZ.out, ← HL.out]; exact hne
 clear H00 hne
 go_enter Tryz.func278, Tryz.ntmps278
 go_wp2
 go_loop [3, 4, 5] (fun dv i cv => ∃ (d k : Nat) (y : Value), cv = y ∧ 1 ≤ k ∧ k ≤ n + 1 ∧ d = 0 ∧ i = .int .i64 (k : Int) ∧ dv = .int .i64 (d : Int) ∧ Hid (ClRel 93 l 1 k)) (fun _ i _ => n + 1 - (intOf i).toNat)
 case atStart => exact ⟨0, 1, _, rfl, by omega, by omega, by omega, rfl, rfl, HCL0⟩
 case round =>
  obtain ⟨d, k, y, rfl, hk1, hkn, hdk, rfl, rfl, HR⟩ := hrel
  by_cases hlt : k < n
  ·have hk2 : (k : Int) < (n : Int) := by omega
   have hk0 : (0 : Int) ≤ (k : Int) := by omega
   have hks : k < s.size := by rw [HZ.out]; omega
   have hkl : k < l.length := by rw [HL.out]; omega
   have hget : s[k] = l[k] := by
    have h := HS.out
    subst h
    rfl
   have HSK := Lib.hid (cl_skip hkl hk1 HR.out)
   have HHIT := Lib.hid (endV_hit (z := 93) hkl hk1)
   have HLESS := Lib.hid (cl_less hkl hk1 HR.out)
   have HON := Lib.hid (cl_on hkl hk1 HR.out)
   obtain ⟨c, hc⟩ : ∃ c, l[k] = c := ⟨_, rfl⟩
   rw [hc] at hget HSK HHIT HLESS HON
   obtain ⟨x, hx⟩ : ∃ x : Int, (c.toNat : Int) = x := ⟨_, rfl⟩
   have hgi : ((s[k]).toNat : Int) = x := by rw [hget]; exact hx
   have HX := Lib.hid hx
   have hx0 : 0 ≤ x := by omega
   have hx1 : x ≤ 255 := by have := c.toNat_lt; omega
   clear hc hkl hget hx
   by_cases e1 : x = 92
   ·have g1 : (x == 92) = true := by simpa using e1
    have HN2 := Lib.hid (HSK.out (u8_int_eq.1 (by rw [HX.out]; exact e1)))
    clear e1
    go_wp2
    go_round
    case rel => exact ⟨d, k + 2, _, rfl, by omega, by omega, by omega, by go_num, rfl, HN2⟩
    case measure => simp [intOf] <;> omega
   have g1 : (x == 92) = false := by simpa using e1
   have HC := Lib.hid (show c ≠ 92 from fun h => e1 (by rw [← HX.out, h]; rfl))
   by_cases e2 : x = 93
   ·have g2 : (x == 93) = true := by simpa using e2
    have HE := Lib.hid (show c = 93 from u8_int_eq.1 (by rw [HX.out]; exact e2))
    have HV := Lib.hid (HHIT.out HR.out HC.out HE.out)
    clear e1 e2 HR
    go_wp2
    go_ret
    exact ⟨by rw [HV.out]; go_num, rfl⟩
   ·have g2 : (x == 93) = false := by simpa using e2
    have HE := Lib.hid (show c ≠ 93 from fun h => e2 (by rw [← HX.out, h]; rfl))
    have HN2 := Lib.hid (HON.out HC.out HE.out (fun h => absurd h.2 (by decide)))
    clear e1 e2 HR
    go_wp2
    go_round
    case rel => exact ⟨d, k + 1, _, rfl, by omega, by omega, by omega, by go_num, rfl, HN2⟩
    case measure => simp [intOf] <;> omega
  ·have hk2 : ¬ (k : Int) < (n : Int) := by omega
   have HV := Lib.hid (endV_end (by rw [HL.out]; omega) HR.out)
   go_wp2
   go_ret
   exact ⟨by rw [HV.out]; rfl, rfl⟩
end Go.Proofs.YthidbmeaccpjdaaGreatDoor
end
