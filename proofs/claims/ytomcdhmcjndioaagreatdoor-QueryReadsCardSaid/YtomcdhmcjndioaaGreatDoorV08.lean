/- strings.Builder, written and read: contracts over a builder of the call's own (copyCheck's panic is out of the model's reach, so the shelf does not lay the writers). strings.Builder: a rune written. Layer 5: the contract of the program's Fold. Layer 32: the closure of Words: a word ends. Layer 32, plain: the length of a unit as the library tells it; what one round of Words leaves. Layer 32: the contract of Words. -/
import Derived.Test.YtomcdhmcjndioaaGreatDoorShelfP
import Derived.Shelf.Strings.BuilderK
import Derived.Shelf.Strings.BuilderRune
import Derived.Lib.RuneBytes
import Derived.Deep.RegionLaw
import Derived.Lib.Small
import Derived.Test.YtomcdhmcjndioaaGreatDoorV01
import Derived.Test.YtomcdhmcjndioaaGreatDoorV02
import Derived.Test.YtomcdhmcjndioaaGreatDoorV04
import Derived.Test.YtomcdhmcjndioaaGreatDoorV07
section
namespace Go.Proofs.YtomcdhmcjndioaaGreatDoor
open Go.RowKit
set_option linter.unusedVariables false

/-- The builder at block b holds the bytes l; its memory lies from B on. -/
def Bld (w : World) (B b : Nat) (l : List UInt8) : Prop := Lib.IsBuilderF 95 5 B b (Lib.byteCells l) w
theorem bld_new (w : World) : Bld (w.alloc (.cells #[.pointer none, .slice none 0 0] 95)) w.heap.size w.heap.size [] := Lib.IsBuilderF.of (Lib.fresh_isBuilder 95 5 w)
theorem Bld.alloc {w : World} {B b : Nat} {l : List UInt8} (h : Bld w B b l) (o : Obj) : Bld (w.alloc o) B b l := Lib.IsBuilderF.alloc h o
theorem Bld.below {w w' : World} {B b : Nat} {l : List UInt8} (h : Bld w B b l) (hb : Below w.heap.size w w') : Bld w' B b l := by
  have key : ∀ p, Lib.BuilderAtF 95 5 B b p (Lib.byteCells l) w → Lib.BuilderAtF 95 5 B b p (Lib.byteCells l) w' := by
    rintro p ⟨h1, v, h2, h3, h4⟩
    refine ⟨h1, v, (hb.block b (heap_lt h2)).trans h2, ?_, h4⟩
    obtain ⟨e0, h3⟩ := h3
    refine ⟨e0, ?_⟩
    rcases h3 with h3 | ⟨g, cap, cur, fz, e, q1, q2, q3⟩
    · exact .inl h3
    · exact .inr ⟨g, cap, cur, fz, e, q1, (hb.block g (heap_lt q2)).trans q2, q3⟩
  exact h.elim (fun h => .inl (key _ h)) (fun h => .inr (key _ h))
theorem Bld.lt {w : World} {B b : Nat} {l : List UInt8} (h : Bld w B b l) : b < w.heap.size := by
  rcases h with ⟨_, v, hb, _⟩ | ⟨_, v, hb, _⟩ <;> exact heap_lt hb
theorem Bld.base {w : World} {B b : Nat} {l : List UInt8} (h : Bld w B b l) : B ≤ b := by
  rcases h with ⟨h, _⟩ | ⟨h, _⟩ <;> exact h
/-- What a writer leaves. -/
structure Wrote (w : World) (B b : Nat) (l : List UInt8) (w' : World) : Prop where
  bld : Bld w' B b l
  bel : Below B w w'
  oth : Lib.OthersKept 5 (some b) w w'
def WrotePost (w : World) (B b : Nat) (l : List UInt8) (v : Value) (e : Ending) (w' : World) : Prop := e = .returned v ∧ Wrote w B b l w'

theorem size_builder : (Tryz.prog.info? 95).map (·.size) = some 2 := by kernel_rfl
theorem lies_builder : liesAt Tryz.prog Tryz.prog.depth 95 (2 / Tryz.prog.cellsOf 95) 0 95 1 = true := by kernel_rfl
theorem info_byte : (Tryz.prog.info? 5).map (fun i => (i.zero, i.size, i.bytes)) = some (some (.int .u8 0), 1, 1) := by kernel_rfl

set_option maxRecDepth 100000 in
theorem check_used (b : Nat) (w : World) (h0 : w.cell? ⟨b, 0, none⟩ = some (.pointer (some ⟨b, 0, none⟩))) :
    Calls Tryz.prog 91 #[.pointer (some ⟨b, 0, none⟩)] w fun e w' => e = .returned (.tuple #[]) ∧ w' = w := by
  obtain ⟨j, hj, _⟩ := Option.map_eq_some_iff.1 size_builder
  go_enter Tryz.func91, Tryz.ntmps91
  go_wp2
  rw [Lib.run_neq_ptr_same w _ Tryz.underlying92 hj]
  go_wp2
  go_end0
  exact ⟨rfl, rfl⟩
set_option maxRecDepth 100000 in
theorem check_fresh (b : Nat) (w : World) (h0 : w.cell? ⟨b, 0, none⟩ = some (.pointer none)) (hsh : w.shape? b = some (95, 2)) (hfz : w.frozen? ⟨b, 0, none⟩ = false) :
    Calls Tryz.prog 91 #[.pointer (some ⟨b, 0, none⟩)] w fun e w' => e = .returned (.tuple #[]) ∧ w' = w.setCell ⟨b, 0, none⟩ (.pointer (some ⟨b, 0, none⟩)) := by
  obtain ⟨j, hj, hjs⟩ := Option.map_eq_some_iff.1 size_builder
  go_enter Tryz.func91, Tryz.ntmps91
  go_wp2
  rw [Lib.run_to_unsafe w ⟨b, 0, none⟩ Tryz.underlying92 Tryz.underlying140 hj (by rw [hjs]; decide) hsh (Nat.zero_lt_succ 1)]
  simp only [Result.andThen]
  rw [Oper.upon_value]
  go_wp2
  rw [run_callFunc_extern Tryz.func112 (by kernel_rfl) (by kernel_rfl) (by kernel_rfl) (e := Extern.AbiNoEscape.same) (by kernel_rfl)]
  rw [Lib.run_noEscape]
  simp only [Result.andThen]
  rw [Oper.upon_value]
  go_wp2
  rw [Lib.run_from_unsafe w ⟨b, 0, none⟩ Tryz.underlying140 Tryz.underlying92 hj hsh lies_builder]
  simp only [Result.andThen]
  rw [Oper.upon_value]
  go_wp2
  go_end0
  exact ⟨rfl, rfl⟩
def CheckPost (w : World) (B b : Nat) (bs : List Value) (e : Ending) (w' : World) : Prop := e = .returned (.tuple #[]) ∧ Lib.BuilderAtF 95 5 B b (.pointer (some ⟨b, 0, none⟩)) bs w' ∧ Below B w w' ∧ Lib.OthersKept 5 (some b) w w'
theorem check_any (B b : Nat) (bs : List Value) (w : World) (h : Lib.IsBuilderF 95 5 B b bs w) : Calls Tryz.prog 91 #[.pointer (some ⟨b, 0, none⟩)] w (CheckPost w B b bs) := by
  rcases h with h | h
  · refine (check_fresh b w h.cell0 h.shape h.frozen0).mono ?_
    rintro e w' ⟨rfl, rfl⟩
    exact ⟨rfl, h.used _, (Below.refl B w).setCell (p := ⟨b, 0, none⟩) h.1 _, (Lib.OthersKept.refl _ _ w).setCell ⟨b, 0, none⟩ rfl _⟩
  · refine (check_used b w h.cell0).mono ?_
    rintro e w' ⟨rfl, rfl⟩
    exact ⟨rfl, h, Below.refl B _, Lib.OthersKept.refl _ _ _⟩

set_option maxHeartbeats 2000000 in
set_option maxRecDepth 100000 in
theorem write_byte (B b : Nat) (l : List UInt8) (c : UInt8) (w : World) (h : Bld w B b l) (hlen : l.length + 1 ≤ 140737488355328) (hBw : B ≤ w.heap.size) :
    Calls Tryz.prog 78 #[.pointer (some ⟨b, 0, none⟩), .int .u8 c.toNat] w (WrotePost w B b (l ++ [c]) .nilIface) := by
  obtain ⟨i0, hi, hz0, hz1, hz2⟩ := info_parts info_byte
  obtain ⟨bs, hbs⟩ : ∃ x, Lib.byteCells l = x := ⟨_, rfl⟩
  have hbl : bs.length = l.length := by rw [← hbs, Lib.byteCells_length]
  unfold Bld at h
  rw [hbs] at h
  rw [← hbl] at hlen
  have HBS := Lib.hid hbs
  have H := Lib.hid h
  clear hbs hbl h
  obtain ⟨u, hu⟩ : ∃ x : Int, (c.toNat : Int) = x := ⟨_, rfl⟩
  rw [hu]
  have HU := Lib.hid hu
  clear hu
  go_enter Tryz.func78, Tryz.ntmps78
  go_wp2_with fail
  refine (check_any B b bs _ H.out).mono ?_
  rintro e w1 ⟨rfl, h1, hb1, hk1⟩
  obtain ⟨hB, v, hbk, hown, hne⟩ := h1
  have c0 : w1.cell? ⟨b, 0, none⟩ = some (.pointer (some ⟨b, 0, none⟩)) := by rw [Lib.cell_of_heap hbk]; rfl
  have c1 : w1.cell? ⟨b, 1, none⟩ = some v := by rw [Lib.cell_of_heap hbk]; rfl
  go_wp2_with (at_builtin; refine wpList_append_ownF _ rfl _ _ 93 rfl B 5 i0 (.int .u8 0) 1 1 Tryz.underlying93 hi hz0 hz1 hz2 rfl (by decide) _ _ _ rfl (hown.alloc _) ⟨w1.heap.size, 0, none⟩ 1 1 [.int .u8 u] rfl rfl ?c1 ?c2 ?c3 ?c4 ?c5 ?_)
  case c1 =>
    intro j u hj
    match j, hj with
    | 0, hj => simp at hj; subst hj; simp [Addr.add]
  case c2 => intro u hu; simp at hu; subst hu; rfl
  case c3 => unfold maxLen; omega
  case c4 => omega
  case c5 => have := hb1.size; simp; omega
  intro v' w2 hown' hgrow _
  have hlt : b < w1.heap.size := heap_lt hbk
  have hb2 : w2.heap[b]? = some (.cells #[.pointer (some ⟨b, 0, none⟩), v] 95 (0, 0)) := by
    rw [hgrow.block b (by simp; omega) (fun e => hne e.symm), Lib.alloc_old w1 _ b hlt]
    exact hbk
  have d0 : w2.cell? ⟨b, 0, none⟩ = some (.pointer (some ⟨b, 0, none⟩)) := by rw [Lib.cell_of_heap hb2]; rfl
  have d1 : w2.cell? ⟨b, 1, none⟩ = some v := by rw [Lib.cell_of_heap hb2]; rfl
  have f1 : w2.frozen? ⟨b, 1, none⟩ = false := Lib.frozen_of_heap hb2 1
  obtain ⟨g, cap, rfl⟩ : ∃ g cap, v' = .slice (some ⟨g, 0, none⟩) (bs.length + 1) cap := by
    rcases hown'.2 with ⟨_, h0⟩ | ⟨g, cap, cur, fz, hv, _⟩
    · omega
    · exact ⟨g, cap, hv⟩
  go_wp2
  go_ret
  refine ⟨rfl, ?_, ?_, ((hk1.alloc _).grown hgrow (Lib.ownsRowF_kind (hown.alloc _))).setCell ⟨b, 1, none⟩ rfl _⟩
  · have e1 : Lib.byteCells (l ++ [c]) = bs ++ [.int .u8 u] := by rw [Lib.byteCells_append, HBS.out, ← HU.out]; rfl
    unfold Bld
    rw [e1]
    exact .inr (Lib.BuilderAtF.put (T := 95) (e := 5) hB hb2 (bs' := bs ++ [.int .u8 u]) (by simpa using hown') (by decide))
  · exact ((hb1.alloc (by have := hb1.size; omega) _).grown hgrow (by have := hb1.size; simp; omega) (fun k hk => (hown.lt k hk).1)).setCell (p := ⟨b, 1, none⟩) hB _

set_option maxHeartbeats 2000000 in
set_option maxRecDepth 100000 in
theorem write_string (B b : Nat) (l t : List UInt8) (w : World) (h : Bld w B b l) (hlen : l.length + t.length ≤ 140737488355328) (hBw : B ≤ w.heap.size) :
    Calls Tryz.prog 64 #[.pointer (some ⟨b, 0, none⟩), .string (ba t)] w (WrotePost w B b (l ++ t) (.tuple #[.int .i64 (t.length : Nat), .nilIface])) := by
  obtain ⟨i0, hi, hz0, hz1, hz2⟩ := info_parts info_byte
  obtain ⟨bs, hbs⟩ : ∃ x, Lib.byteCells l = x := ⟨_, rfl⟩
  have hbl : bs.length = l.length := by rw [← hbs, Lib.byteCells_length]
  obtain ⟨s, hs⟩ : ∃ x, ba t = x := ⟨_, rfl⟩
  have hsz : s.size = t.length := by rw [← hs, ba_size]
  have hsc : Lib.strCells s = Lib.byteCells t := by rw [← hs]; rfl
  unfold Bld at h
  rw [hbs] at h
  rw [← hbl, ← hsz] at hlen
  rw [hs]
  have HBS := Lib.hid hbs
  have H := Lib.hid h
  have HSZ := Lib.hid hsz
  have HSC := Lib.hid hsc
  clear hbs hbl h hs hsz hsc
  go_enter Tryz.func64, Tryz.ntmps64
  go_wp2_with fail
  refine (check_any B b bs _ H.out).mono ?_
  rintro e w1 ⟨rfl, h1, hb1, hk1⟩
  obtain ⟨hB, v, hbk, hown, hne⟩ := h1
  have c0 : w1.cell? ⟨b, 0, none⟩ = some (.pointer (some ⟨b, 0, none⟩)) := by rw [Lib.cell_of_heap hbk]; rfl
  have c1 : w1.cell? ⟨b, 1, none⟩ = some v := by rw [Lib.cell_of_heap hbk]; rfl
  go_wp2_with (at_builtin; refine Lib.wpList_append_own_stringF _ rfl _ _ 93 9 rfl B 5 i0 Tryz.underlying93 Tryz.underlying9 hi hz0 hz1 hz2 _ _ _ rfl hown s rfl ?c3 ?c4 ?c5 ?_)
  case c3 => unfold maxLen; omega
  case c4 => omega
  case c5 => have := hb1.size; omega
  intro v' w2 hown' hgrow _
  have hlt : b < w1.heap.size := heap_lt hbk
  have hb2 : w2.heap[b]? = some (.cells #[.pointer (some ⟨b, 0, none⟩), v] 95 (0, 0)) := by
    rw [hgrow.block b hlt (fun e => hne e.symm)]
    exact hbk
  have d0 : w2.cell? ⟨b, 0, none⟩ = some (.pointer (some ⟨b, 0, none⟩)) := by rw [Lib.cell_of_heap hb2]; rfl
  have d1 : w2.cell? ⟨b, 1, none⟩ = some v := by rw [Lib.cell_of_heap hb2]; rfl
  have f1 : w2.frozen? ⟨b, 1, none⟩ = false := Lib.frozen_of_heap hb2 1
  obtain ⟨ao, n', cap, rfl⟩ : ∃ ao n' cap, v' = .slice ao n' cap := by
    rcases hown'.2 with ⟨hv, _⟩ | ⟨g, cap, cur, fz, hv, _⟩
    · exact ⟨_, _, _, hv⟩
    · exact ⟨_, _, _, hv⟩
  go_wp2
  go_ret2
  refine ⟨congrArg (fun n : Nat => Ending.returned (.tuple #[.int .i64 (n : Int), .nilIface])) HSZ.out, ?_, ?_, (hk1.grown hgrow (Lib.ownsRowF_kind hown)).setCell ⟨b, 1, none⟩ rfl _⟩
  · have e1 : Lib.byteCells (l ++ t) = bs ++ Lib.strCells s := by rw [Lib.byteCells_append, HBS.out, HSC.out]
    unfold Bld
    rw [e1]
    exact .inr (Lib.BuilderAtF.put (T := 95) (e := 5) hB hb2 (bs' := bs ++ Lib.strCells s) (by simpa [Lib.strCells_length] using hown') (by decide))
  · exact (hb1.grown hgrow (by have := hb1.size; omega) (fun k hk => (hown.lt k hk).1)).setCell (p := ⟨b, 1, none⟩) hB _

theorem bld_string (B b : Nat) (l : List UInt8) (w : World) (h : Bld w B b l) (hBw : B ≤ w.heap.size) :
    Calls Tryz.prog 65 #[.pointer (some ⟨b, 0, none⟩)] w (WrotePost w B b l (.string (ba l))) :=
  (Tryz.Builder_String_any_k B b l w h hBw).mono fun e w' ⟨he, h1, h2, h3⟩ => ⟨he, h1, h2, h3⟩
end Go.Proofs.YtomcdhmcjndioaaGreatDoor
end
section
namespace Go.Proofs.YtomcdhmcjndioaaGreatDoor
open Go.RowKit
set_option linter.unusedVariables false

theorem rune_len (r : Int) : (Lib.runeCells r).length = (Lib.encodeRune r).length ∧ (Lib.runeCells r).length ≤ 4 := by
  refine ⟨?_, (Lib.runeCells_le r).2⟩
  unfold Lib.runeCells Lib.encodeRune; simp
set_option maxHeartbeats 2000000 in
set_option maxRecDepth 100000 in
theorem write_rune (B b : Nat) (l : List UInt8) (r : Int) (w : World) (h : Bld w B b l) (hlen : l.length ≤ 100000000000000) (hBw : B ≤ w.heap.size) (hr0 : -2147483648 ≤ r) (hr1 : r ≤ 2147483647) :
    Calls Tryz.prog 79 #[.pointer (some ⟨b, 0, none⟩), .int .i32 r] w (WrotePost w B b (l ++ Lib.encodeRune r) (.tuple #[.int .i64 ((Lib.runeCells r).length : Nat), .nilIface])) := by
  obtain ⟨bs, hbs⟩ : ∃ x, Lib.byteCells l = x := ⟨_, rfl⟩
  have hbl : bs.length = l.length := by rw [← hbs, Lib.byteCells_length]
  unfold Bld at h
  rw [hbs] at h
  rw [← hbl] at hlen
  have HBS := Lib.hid hbs
  have H := Lib.hid h
  have hrl := rune_len r
  obtain ⟨k, hk⟩ : ∃ k, (Lib.runeCells r).length = k := ⟨_, rfl⟩
  rw [hk] at hrl
  have HK := Lib.hid hk
  have hk4 := hrl.2
  clear hbs hbl h hrl
  rw [hk]
  clear hk
  go_enter Tryz.func79, Tryz.ntmps79
  go_wp2_with fail
  refine (check_any B b bs _ H.out).mono ?_
  rintro e w1 ⟨rfl, h1, hb1, hk1⟩
  obtain ⟨hB, v, hbk, hown, hne⟩ := h1
  obtain ⟨ao, cap, rfl⟩ : ∃ ao cap, v = .slice ao bs.length cap := by
    rcases hown.2 with ⟨hv, h0⟩ | ⟨g, cap, cur, fz, hv, _⟩
    · exact ⟨none, 0, by rw [h0]; exact hv⟩
    · exact ⟨_, _, hv⟩
  have c0 : w1.cell? ⟨b, 0, none⟩ = some (.pointer (some ⟨b, 0, none⟩)) := by rw [Lib.cell_of_heap hbk]; rfl
  have c1 : w1.cell? ⟨b, 1, none⟩ = some (.slice ao bs.length cap) := by rw [Lib.cell_of_heap hbk]; rfl
  have HOWN := Lib.hid hown
  have HBK := Lib.hid hbk
  have HNE := Lib.hid hne
  have HB1 := Lib.hid hb1
  have HK1 := Lib.hid hk1
  have hs1 := hb1.size
  clear hown hbk hne hb1 hk1
  go_wp2_with fail
  refine (Tryz.utf8_AppendRune_row B _ bs.length bs r hr0 hr1 w1 HOWN.out (by omega) (by omega)).mono ?_
  rintro e w2 ⟨v2, rfl, hown2, o, hg⟩
  rw [HK.out] at hown2
  have hlt : b < w1.heap.size := heap_lt HBK.out
  have hb2 : w2.heap[b]? = some (.cells #[.pointer (some ⟨b, 0, none⟩), .slice ao bs.length cap] 95 (0, 0)) := by
    rw [hg.block b (by simp; omega) (fun e => HNE.out e.symm), Lib.alloc_old w1 _ b hlt]
    exact HBK.out
  obtain ⟨ao2, cap2, rfl⟩ : ∃ ao cap, v2 = .slice ao (bs.length + k) cap := by
    rcases hown2.2 with ⟨hv, h0⟩ | ⟨g, cap, cur, fz, hv, _⟩
    · exact ⟨none, 0, by rw [h0]; exact hv⟩
    · exact ⟨_, _, hv⟩
  have d0 : w2.cell? ⟨b, 0, none⟩ = some (.pointer (some ⟨b, 0, none⟩)) := by rw [Lib.cell_of_heap hb2]; rfl
  have d1 : w2.cell? ⟨b, 1, none⟩ = some (.slice ao bs.length cap) := by rw [Lib.cell_of_heap hb2]; rfl
  have f1 : w2.frozen? ⟨b, 1, none⟩ = false := Lib.frozen_of_heap hb2 1
  have hb3 : (w2.setCell ⟨b, 1, none⟩ (.slice ao2 (bs.length + k) cap2)).heap[b]? = some (.cells #[.pointer (some ⟨b, 0, none⟩), .slice ao2 (bs.length + k) cap2] 95 (0, 0)) := heap_setCell_same w2 b 1 _ 95 _ hb2
  have e1 : (w2.setCell ⟨b, 1, none⟩ (.slice ao2 (bs.length + k) cap2)).cell? ⟨b, 1, none⟩ = some (.slice ao2 (bs.length + k) cap2) := by rw [Lib.cell_of_heap hb3]; rfl
  have HOWN2 := Lib.hid hown2
  have HB2 := Lib.hid hb2
  have HG := Lib.hid hg
  clear c0 c1 hown2 hb2 hg hb3
  go_wp2
  go_ret2
  have e9 : Lib.byteCells (l ++ Lib.encodeRune r) = bs ++ Lib.runeCells r := by rw [Lib.byteCells_append, HBS.out, Lib.byteCells_encodeRune]
  refine ⟨congrArg (fun n : Int => Ending.returned (.tuple #[.int .i64 n, .nilIface])) (by omega), ?_, ?_, ((HK1.out.alloc _).grown HG.out (Lib.ownsRowF_kind (HOWN.out.alloc _))).setCell ⟨b, 1, none⟩ rfl _⟩
  · unfold Bld
    rw [e9]
    refine .inr (Lib.BuilderAtF.put (T := 95) (e := 5) hB HB2.out (bs' := bs ++ Lib.runeCells r) ?_ (by decide))
    rw [List.length_append, HK.out]; exact HOWN2.out
  · exact ((HB1.out.alloc (by omega) _).grown HG.out (by simp; omega) (fun k hk => (HOWN.out.lt k hk).1)).setCell (p := ⟨b, 1, none⟩) hB _
end Go.Proofs.YtomcdhmcjndioaaGreatDoor
end
section
namespace Go.Proofs.YtomcdhmcjndioaaGreatDoor
open Go.RowKit
set_option linter.unusedVariables false

theorem hasPrefix_any (s p : List UInt8) (w : World) : Calls Tryz.prog 77 #[.string (ba s), .string (ba p)] w fun e w' => e = .returned (.bool (decide (p <+: s))) ∧ w = w' := by
  refine (Tryz.strings_HasPrefix (ba s) (ba p) w).mono ?_
  rintro e w' ⟨rfl, rfl⟩
  refine ⟨congrArg (fun b => Ending.returned (.bool b)) ?_, rfl⟩
  rw [ba_list, ba_list, Bool.eq_iff_iff, decide_eq_true_iff]
  exact List.isPrefixOf_iff_prefix
def FoldRel (w : World) (s : ByteArray) (l : List UInt8) (pos : Nat) (wr : World) : Prop := ∃ acc, Bld wr w.heap.size w.heap.size acc ∧ wr.heap[w.heap.size + 1]? = some (.stringIter s pos) ∧ Below w.heap.size w wr ∧ acc ++ foldP (l.drop pos) = foldP l ∧ acc.length = pos
set_option maxRecDepth 100000 in
set_option maxHeartbeats 4000000 in
theorem fold_any (l : List UInt8) (w : World) (hs : fSpans w w.heap.size) (hl : l.length ≤ 1000000000) : Calls Tryz.prog 54 #[.string (ba l)] w (StrPost w (foldP l)) := by
  obtain ⟨s, hse⟩ : ∃ s, ba l = s := ⟨_, rfl⟩
  have hsz : s.size = l.length := by rw [← hse, ba_size]
  rw [hse]
  have HS := Lib.hid hse
  have HSZ := Lib.hid hsz
  have HSP := Lib.hid hs
  rw [← hsz] at hl
  clear hse hsz hs
  go_enter Tryz.func54, Tryz.ntmps54
  go_wp2
  go_loopw [] (fun wr => ∃ pos : Nat, pos ≤ s.size ∧ Hid (FoldRel w s l pos wr)) (fun wr => s.size - wr.iterPos (w.heap.size + 1))
  case atStart =>
    refine ⟨0, Nat.zero_le _, [], (bld_new w).alloc _, ?_, ((Below.refl _ w).alloc (Nat.le_refl _) _).alloc (by simp) _, rfl, rfl⟩
    have := World.iter_heap (w.alloc (.cells #[.pointer none, .slice none 0 0] 95)) s 0
    simpa using this
  case round =>
    obtain ⟨pos, hpos, HR⟩ := hrel
    obtain ⟨acc, hbld, hit, hbw, hacc, hal⟩ := HR.out
    have hszr : w.heap.size + 1 < wr.heap.size := heap_lt hit
    by_cases hp : pos < s.size
    · have hne : l.drop pos ≠ [] := by intro e; have := congrArg List.length e; rw [List.length_drop, ← HSZ.out] at this; simp at this; omega
      have hnx0 : ∀ ty, (Instr.next (.pointer (some ⟨w.heap.size + 1, 0, none⟩)) true ty).run Tryz.prog wr = _ := fun ty => Lib.run_next_any_at wr (w.heap.size + 1) s pos ty hit hp
      have hdec : Utf8.decode s pos = uN (l.drop pos) := by rw [← HS.out]; exact uN_at l pos
      have hup := uN_pos _ hne
      have hstep := step_fold hne
      have hfc := foldP_cons hne
      have hful := foldU_len _ hne
      rw [List.drop_drop] at hfc
      obtain ⟨⟨r, n⟩, hrn⟩ : ∃ q, uN (l.drop pos) = q := ⟨_, rfl⟩
      rw [hrn] at hdec hup hstep hfc hful
      rw [hdec] at hnx0
      dsimp only at hup hstep hfc hful hnx0
      rw [List.length_drop, ← HSZ.out] at hup
      have hbld2 : Bld (wr.iterAt (w.heap.size + 1) s (pos + n)) w.heap.size w.heap.size acc := Lib.IsBuilderF.iterAt hbld hit (pos + n)
      have hit2 := Lib.iterAt_heap wr (w.heap.size + 1) s pos (pos + n) hit
      have hbw2 := Lib.below_iterAt hbw (k := w.heap.size + 1) (by omega) s (pos + n)
      have hsz2 : w.heap.size ≤ (wr.iterAt (w.heap.size + 1) s (pos + n)).heap.size := by rw [Lib.iterAt_size]; omega
      obtain ⟨W, hW⟩ : ∃ W, wr.iterAt (w.heap.size + 1) s (pos + n) = W := ⟨_, rfl⟩
      rw [hW] at hnx0 hbld2 hit2 hbw2 hsz2
      have hnx := hnx0
      have HBLD := Lib.hid hbld2
      have HIT := Lib.hid hit2
      have HBW := Lib.hid hbw2
      have HACC := Lib.hid (show ∀ u, u = foldU (l.drop pos) → (acc ++ u) ++ foldP (l.drop (pos + n)) = foldP l ∧ (acc ++ u).length = pos + n from fun u hu => by
        subst hu
        refine ⟨by rw [← hacc, hfc, List.append_assoc], by rw [List.length_append, hal, hful]⟩)
      have HST := Lib.hid hstep
      have HAL := Lib.hid hal
      have HIT0 := Lib.hid hit
      clear hnx0 hrn hdec hbld hbld2 hit2 hbw2 hacc hfc hful hstep HR hbw hal hit hW
      have hi0 : (0 : Int) ≤ (pos : Int) := by omega
      have hi1 : (pos : Int) < (s.size : Int) := by omega
      by_cases hr : r = 65533
      · have hreq : ((r : Int) == 65533) = true := by simp [hr]
        have HRR := Lib.hid hr
        clear hr
        have hcut : s.extract pos s.size = ba (l.drop pos) := by rw [← HS.out]; exact ba_drop _ _
        have HCUT := Lib.hid hcut
        clear hcut
        go_wp2_with fail
        rw [HCUT.out]
        refine (hasPrefix_any (l.drop pos) [239, 191, 189] W).mono ?_
        rintro e w4 ⟨rfl, rfl⟩
        by_cases hpre : [239, 191, 189] <+: l.drop pos
        · rw [decide_eq_true hpre]
          have HU := Lib.hid (show Lib.encodeRune (rlower r) = foldU (l.drop pos) by rw [← HST.out, if_neg (fun h => h.2 hpre)])
          clear hpre
          go_wp2_with fail
          refine (lower_any r W ((HSP.out.below HBW.out).more HBW.out.size) (by omega) (by omega)).mono ?_
          rintro e w5 ⟨rfl, hb5⟩
          have hlw := rlower_low (r := (r : Int)) (by omega)
          have HB5 := Lib.hid (HBLD.out.below hb5)
          have HI5 := Lib.hid ((hb5.block _ (heap_lt HIT.out)).trans HIT.out)
          have HW5 := Lib.hid (HBW.out.trans (hb5.mono HBW.out.size))
          have hs5 : w.heap.size ≤ w5.heap.size := Nat.le_trans HBW.out.size hb5.size
          clear hb5
          go_wp2_with fail
          refine (write_rune w.heap.size w.heap.size acc (rlower r) w5 HB5.out (by have := HAL.out; omega) hs5 (by omega) (by omega)).mono ?_
          rintro e w6 ⟨rfl, h6⟩
          have HF := Lib.hid (show w6.heap[w.heap.size + 1]? = some (.stringIter s (pos + n)) ∧ FoldRel w s l (pos + n) w6 from ⟨h6.oth.iter HI5.out (by omega), _, h6.bld, h6.oth.iter HI5.out (by omega), HW5.out.trans h6.bel, (HACC.out _ HU.out).1, (HACC.out _ HU.out).2⟩)
          clear h6
          go_wp2
          go_roundw
          case rel => exact ⟨pos + n, by omega, HF.out.2⟩
          case measure =>
            simp only [World.iterPos, HF.out.1, HIT0.out]
            omega
        · rw [decide_eq_false hpre]
          have HU := Lib.hid (show (l.drop pos).take 1 = foldU (l.drop pos) by rw [← HST.out, if_pos ⟨HRR.out, hpre⟩])
          clear hpre
          have hge : s[pos]'hp = l[pos]'(by rw [← HSZ.out]; exact hp) := by have := HS.out; subst this; rfl
          have HGE := Lib.hid hge
          clear hge
          go_wp2_with fail
          refine (write_byte w.heap.size w.heap.size acc (s[pos]'hp) W HBLD.out (by have := HAL.out; omega) HBW.out.size).mono ?_
          rintro e w6 ⟨rfl, h6⟩
          have HU1 := Lib.hid (show [s[pos]'hp] = foldU (l.drop pos) by rw [← HU.out, HGE.out, List.drop_eq_getElem_cons (by rw [← HSZ.out]; exact hp)]; rfl)
          have HF := Lib.hid (show w6.heap[w.heap.size + 1]? = some (.stringIter s (pos + n)) ∧ FoldRel w s l (pos + n) w6 from ⟨h6.oth.iter HIT.out (by omega), _, h6.bld, h6.oth.iter HIT.out (by omega), HBW.out.trans h6.bel, (HACC.out _ HU1.out).1, (HACC.out _ HU1.out).2⟩)
          clear h6
          go_wp2
          go_roundw
          case rel => exact ⟨pos + n, by omega, HF.out.2⟩
          case measure =>
            simp only [World.iterPos, HF.out.1, HIT0.out]
            omega
      · have hreq : ((r : Int) == 65533) = false := by simp; omega
        have HU := Lib.hid (show Lib.encodeRune (rlower r) = foldU (l.drop pos) by rw [← HST.out, if_neg (fun h => hr h.1)])
        go_wp2_with fail
        refine (lower_any r W ((HSP.out.below HBW.out).more HBW.out.size) (by omega) (by omega)).mono ?_
        rintro e w5 ⟨rfl, hb5⟩
        have hlw := rlower_low (r := (r : Int)) (by omega)
        have HB5 := Lib.hid (HBLD.out.below hb5)
        have HI5 := Lib.hid ((hb5.block _ (heap_lt HIT.out)).trans HIT.out)
        have HW5 := Lib.hid (HBW.out.trans (hb5.mono HBW.out.size))
        have hs5 : w.heap.size ≤ w5.heap.size := Nat.le_trans HBW.out.size hb5.size
        clear hb5
        go_wp2_with fail
        refine (write_rune w.heap.size w.heap.size acc (rlower r) w5 HB5.out (by have := HAL.out; omega) hs5 (by omega) (by omega)).mono ?_
        rintro e w6 ⟨rfl, h6⟩
        have HF := Lib.hid (show w6.heap[w.heap.size + 1]? = some (.stringIter s (pos + n)) ∧ FoldRel w s l (pos + n) w6 from ⟨h6.oth.iter HI5.out (by omega), _, h6.bld, h6.oth.iter HI5.out (by omega), HW5.out.trans h6.bel, (HACC.out _ HU.out).1, (HACC.out _ HU.out).2⟩)
        clear h6
        go_wp2
        go_roundw
        case rel => exact ⟨pos + n, by omega, HF.out.2⟩
        case measure =>
          simp only [World.iterPos, HF.out.1, HIT0.out]
          omega
    · have hnx : ∀ ty, (Instr.next (.pointer (some ⟨w.heap.size + 1, 0, none⟩)) true ty).run Tryz.prog wr = _ := fun ty => Lib.run_next_end_at wr (w.heap.size + 1) s pos ty hit hp
      have HBLD := Lib.hid hbld
      have HBW := Lib.hid hbw
      have HF := Lib.hid (show acc = foldP l by
        rw [← hacc, List.drop_of_length_le (by rw [← HSZ.out]; omega)]; simp [foldP_nil])
      clear hbld hbw hacc hal hit HR
      go_wp2_with fail
      refine (bld_string w.heap.size w.heap.size acc wr HBLD.out HBW.out.size).mono ?_
      rintro e w6 ⟨rfl, h6⟩
      have H6 := Lib.hid (HBW.out.trans h6.bel)
      clear h6
      go_wp2
      go_ret
      exact ⟨by rw [HF.out]; rfl, H6.out⟩
end Go.Proofs.YtomcdhmcjndioaaGreatDoor
end
section
namespace Go.Proofs.YtomcdhmcjndioaaGreatDoor
open Go.RowKit
set_option linter.unusedVariables false

theorem cell_box {w : World} {b : Nat} {v : Value} {T : TypeId} (h : w.heap[b]? = some (.cells #[v] T (0, 0))) : w.cell? ⟨b, 0, none⟩ = some v := by simp [World.cell?, h]
theorem frozen_box {w : World} {b : Nat} {v : Value} {T : TypeId} (h : w.heap[b]? = some (.cells #[v] T (0, 0))) : w.frozen? ⟨b, 0, none⟩ = false := by simp [World.frozen?, h]
/-- What Words keeps while it runs: the text at block g, the words behind it, and where the word under way begins. -/
def WState (w : World) (g : Nat) (l : List UInt8) (f : Int) (ws : List (Nat × Nat)) : Prop :=
  w.heap[g]? = some (.cells #[.string (ba l)] 9 (0, 0)) ∧ w.heap[g + 2]? = some (.cells #[.int .i64 f] 3 (0, 0)) ∧ ∃ v, w.heap[g + 1]? = some (.cells #[v] 66 (0, 0)) ∧ OwnWords w (g + 4) v l ws
def EndPost (w : World) (g : Nat) (l : List UInt8) (ws : List (Nat × Nat)) (r : Ending) (w' : World) : Prop := r = .returned (.tuple #[]) ∧ WState w' g l (-1) ws ∧ Off (fun k => g ≤ k) w w' ∧ w'.heap[g + 3]? = w.heap[g + 3]?
theorem WState.put {w : World} {g : Nat} {l : List UInt8} {f : Int} {ws : List (Nat × Nat)} (h : WState w g l f ws) (f' : Int) : WState (w.setCell ⟨g + 2, 0, none⟩ (.int .i64 f')) g l f' ws ∧ Off (fun k => g ≤ k) w (w.setCell ⟨g + 2, 0, none⟩ (.int .i64 f')) ∧ (w.setCell ⟨g + 2, 0, none⟩ (.int .i64 f')).heap[g + 3]? = w.heap[g + 3]? := by
  obtain ⟨h1, h2, v, h3, h4⟩ := h
  have hO : Off (· = g + 2) w (w.setCell ⟨g + 2, 0, none⟩ (.int .i64 f')) := (Off.refl (· = g + 2) w).setCell (p := ⟨g + 2, 0, none⟩) (.inl rfl) _
  have l1 := heap_lt h1
  have l3 := heap_lt h3
  refine ⟨⟨(hO.block g l1 (by omega)).trans h1, heap_setCell_same w (g + 2) 0 _ 3 _ h2, v, (hO.block (g + 1) l3 (by omega)).trans h3, ownsRow_block h4 fun b e => hO.block b (h4.lt b e).2 (by have := (h4.lt b e).1; omega)⟩, ?_, heap_setCell_other w ⟨g + 2, 0, none⟩ (g + 3) _ (by show g + 3 ≠ g + 2; omega)⟩
  exact (Off.refl (fun k => g ≤ k) w).setCell (p := ⟨g + 2, 0, none⟩) (.inl (by show g ≤ g + 2; omega)) _
theorem add_word {w w3 w8 : World} {g : Nat} (hs3 : g + 3 < w.heap.size) {l : List UInt8} {f : Int} {v v' : Value} {ws : List (Nat × Nat)} {r : Nat × Nat} (hb : Below w.heap.size w w3) (hbox : w.heap[g + 1]? = some (.cells #[v] 66 (0, 0))) (h1 : w.heap[g]? = some (.cells #[.string (ba l)] 9 (0, 0))) (h2 : w.heap[g + 2]? = some (.cells #[.int .i64 f] 3 (0, 0)))
    (hown : OwnWords w (g + 4) v l ws) (h8 : OwnWords w8 (g + 4) v' l (ws ++ [r])) (hg : w3.grownBy w8 v.ownBlock) :
    w8.heap[g + 1]? = some (.cells #[v] 66 (0, 0)) ∧ WState (w8.setCell ⟨g + 1, 0, none⟩ v') g l f (ws ++ [r]) ∧ Off (fun k => g ≤ k) w (w8.setCell ⟨g + 1, 0, none⟩ v') ∧ (w8.setCell ⟨g + 1, 0, none⟩ v').heap[g + 3]? = w.heap[g + 3]? := by
  have old : ∀ k, k ≤ g + 3 → k < w.heap.size → w8.heap[k]? = w.heap[k]? := fun k hk hs => (hg.block k (by have := hb.size; omega) fun e => by have := (hown.lt k e.symm).1; omega).trans (hb.block k hs)
  have k1 := (old g (by omega) (heap_lt h1)).trans h1
  have k2 := (old (g + 2) (by omega) (heap_lt h2)).trans h2
  have k3 := (old (g + 1) (by omega) (heap_lt hbox)).trans hbox
  have hO : Off (· = g + 1) w8 (w8.setCell ⟨g + 1, 0, none⟩ v') := (Off.refl (· = g + 1) w8).setCell (p := ⟨g + 1, 0, none⟩) (.inl rfl) _
  refine ⟨k3, ⟨(hO.block g (heap_lt k1) (by omega)).trans k1, (hO.block (g + 2) (heap_lt k2) (by omega)).trans k2, v', heap_setCell_same w8 (g + 1) 0 _ _ _ k3, ownsRow_block h8 fun b e => hO.block b (h8.lt b e).2 (by have := (h8.lt b e).1; omega)⟩, ?_, (heap_setCell_other w8 ⟨g + 1, 0, none⟩ (g + 3) _ (by show g + 3 ≠ g + 1; omega)).trans (old (g + 3) (Nat.le_refl _) hs3)⟩
  exact (((Off.refl (fun k => g ≤ k) w).trans (Off.of_below hb fun k hk hle => absurd hle (by have := heap_lt h1; omega))).grown hg fun k e => .inl (by have := (hown.lt k e).1; omega)).setCell (p := ⟨g + 1, 0, none⟩) (.inl (by show g ≤ g + 1; omega)) _
set_option maxRecDepth 100000 in
set_option maxHeartbeats 4000000 in
theorem end_any (g : Nat) (l : List UInt8) (f : Int) (ws : List (Nat × Nat)) (t : Nat) (w : World) (hl : l.length ≤ 1000000000) (ht : t ≤ l.length) (hf : f = -1 ∨ 0 ≤ f ∧ f ≤ t) (hst : WState w g l f ws) (hlen : ws.length ≤ 1000000000) (hs : fSpans w g) (hs3 : g + 3 < w.heap.size) :
    Calls Tryz.prog 53 #[.int .i64 (t : Int), .pointer (some ⟨g + 2, 0, none⟩), .pointer (some ⟨g + 1, 0, none⟩), .pointer (some ⟨g, 0, none⟩)] w (EndPost w g l (wEnd f t ws)) := by
  rcases hf with rfl | ⟨hf0, hft⟩
  · have hp := hst.put (-1)
    have HP := Lib.hid hp
    obtain ⟨h1, h2, v, h3, h4⟩ := hst
    have c2 : w.cell? ⟨g + 2, 0, none⟩ = some (.int .i64 (-1)) := cell_box h2
    have f2 : w.frozen? ⟨g + 2, 0, none⟩ = false := frozen_box h2
    clear hp h1 h2 h3 h4
    go_enter Tryz.func53, Tryz.ntmps53
    go_wp2
    go_end0
    exact ⟨rfl, HP.out.1, HP.out.2.1, HP.out.2.2⟩
  · have HST := Lib.hid hst
    obtain ⟨h1, h2, v, h3, h4⟩ := hst
    obtain ⟨n, rfl⟩ : ∃ n : Nat, f = n := ⟨f.toNat, by omega⟩
    obtain ⟨A, c, rfl, -, -⟩ := h4.shape
    have l1 := heap_lt h1
    have l2 := heap_lt h2
    have l3 := heap_lt h3
    have c0 : w.cell? ⟨g, 0, none⟩ = some (.string (ba l)) := cell_box h1
    have c1 : w.cell? ⟨g + 1, 0, none⟩ = some (.slice A ws.length c) := cell_box h3
    have c2 : w.cell? ⟨g + 2, 0, none⟩ = some (.int .i64 (n : Int)) := cell_box h2
    have hnt : (n : Int) ≤ (t : Int) := hft
    have htl : (t : Int) ≤ ((ba l).size : Int) := by rw [ba_size]; omega
    have HF := Lib.hid (fold_any ((l.take t).drop n) w.drew (show fSpans w.drew w.drew.heap.size from (hs.more (show g ≤ w.heap.size by omega))) (by rw [List.length_drop, List.length_take]; omega))
    have HCUT := Lib.hid (ba_cut l n t)
    have HL := Lib.hid hlen
    have HOWN := Lib.hid h4
    have HBX := Lib.hid h3
    have HTX := Lib.hid h1
    have HFX := Lib.hid h2
    clear h1 h2 h3 h4 hlen
    clear hs hft
    go_enter Tryz.func53, Tryz.ntmps53
    go_wp2
    go_region_law
      (first
        | (go_simp; go_at_call 54; rw [HCUT.out]; refine HF.out.mono ?_; rintro e w1 ⟨rfl, hbel⟩; (
          have HB1 := Lib.hid ((Below.refl _ _).drew.trans hbel)
          have HO1 := Lib.hid (HOWN.out.below HB1.out)
          have hs1 : g + 4 ≤ w1.heap.size := Nat.le_trans hs3 hbel.size
          have e0 : w1.cell? ⟨g, 0, none⟩ = some (.string (ba l)) := (HB1.out.cell (p := ⟨g, 0, none⟩) l1).trans c0
          have e1 : w1.cell? ⟨g + 1, 0, none⟩ = some (.slice A ws.length c) := (HB1.out.cell (p := ⟨g + 1, 0, none⟩) l3).trans c1
          have e2 : w1.cell? ⟨g + 2, 0, none⟩ = some (.int .i64 (n : Int)) := (HB1.out.cell (p := ⟨g + 2, 0, none⟩) l2).trans c2
          have e6 : (w1.alloc (.cells #[.string (ba (foldP ((l.take t).drop n))), .int .i64 (n : Int), .int .i64 (t : Int)] 69)).cell? ⟨g + 1, 0, none⟩ = some (.slice A ws.length c) := (World.cell?_of_block (a := ⟨g + 1, 0, none⟩) (heap_alloc_old w1 _ (by show g + 1 < w1.heap.size; omega))).trans e1
          clear hbel))
        | (refine step_pushWord (r := (n, t)) HO1.out hs1 HL.out rfl (.tmp 7) (.tmp 16) 1 rfl rfl rfl ?_; intro v' w8 hown8 hg8; (
          obtain ⟨A8, c8, hv8, -, -⟩ := hown8.shape
          rw [List.length_append, List.length_singleton] at hv8
          subst hv8
          obtain ⟨k3, k4, k5, k6⟩ := add_word hs3 HB1.out HBX.out HTX.out HFX.out HOWN.out hown8 hg8
          have e3 : w8.cell? ⟨g + 1, 0, none⟩ = some (.slice A ws.length c) := cell_box k3
          have ef : w8.frozen? ⟨g + 1, 0, none⟩ = false := frozen_box k3
          obtain ⟨k7, k8, k9⟩ := k4.put (-1)
          have e4 : (w8.setCell ⟨g + 1, 0, none⟩ (.slice A8 (ws.length + 1) c8)).cell? ⟨g + 2, 0, none⟩ = some (.int .i64 (n : Int)) := cell_box k4.2.1
          have e5 : (w8.setCell ⟨g + 1, 0, none⟩ (.slice A8 (ws.length + 1) c8)).frozen? ⟨g + 2, 0, none⟩ = false := frozen_box k4.2.1
          have HE := Lib.hid (And.intro k7 (And.intro (k5.trans k8) (k9.trans k6)))
          clear k3 k4 k5 k6 k7 k8 k9 hown8 hg8))
        | fail)
    all_goals
      go_wp2
      go_end0
      have hf := HE.out
      exact ⟨rfl, by unfold wEnd; rw [if_pos (by omega)]; exact hf.1, hf.2.1, hf.2.2⟩
end Go.Proofs.YtomcdhmcjndioaaGreatDoor
end
section
namespace Go.Proofs.YtomcdhmcjndioaaGreatDoor
set_option linter.unusedVariables false

theorem runeLen_unit {l : List UInt8} (h : l ≠ []) (hr : (uN l).1 ≠ 65533) : Lib.runeLen ((uN l).1 : Int) = ((uN l).2 : Int) := by
  have h1 := uN_cases l h
  have b0 := bt_lt l 0
  have b1 := bt_lt l 1
  have b2 := bt_lt l 2
  have b3 := bt_lt l 3
  unfold Lib.runeLen
  generalize (uN l).1 = r at *
  generalize (uN l).2 = n at *
  generalize bt l 0 = x0 at *
  generalize bt l 1 = x1 at *
  generalize bt l 2 = x2 at *
  generalize bt l 3 = x3 at *
  clear h
  rcases h1 with ⟨rfl, ⟨h1, rfl⟩ | ⟨h1, rfl⟩⟩ | ⟨rfl, h⟩ | ⟨rfl, h⟩ | ⟨rfl, h⟩
  · repeat' split
    all_goals omega
  · exact absurd rfl hr
  all_goals
    repeat' split
    all_goals omega
theorem wKind_bad {l : List UInt8} (h : (uN l).1 = 65533) : wKind l = 0 := by unfold wKind; rw [if_pos h]
theorem wKind_ok {l : List UInt8} (h : (uN l).1 ≠ 65533) : wKind l = kindP (uN l).1 := by unfold wKind; rw [if_neg h]
theorem wStep_none {l : List UInt8} {a : Nat} {f : Int} {ws : List (Nat × Nat)} (h : wKind l = 0) : wStep l a f ws = (-1, wEnd f a ws) := by unfold wStep; rw [if_pos h]
theorem wStep_own {l : List UInt8} {a : Nat} {f : Int} {ws : List (Nat × Nat)} (h : wKind l = 2) : wStep l a f ws = (-1, wEnd (a : Int) (a + (uN l).2) (wEnd f a ws)) := by
  unfold wStep; rw [if_neg (by rw [h]; decide), if_pos h]
  show _ = (-1, if (0 : Int) ≤ (a : Int) then _ else _)
  rw [if_pos (by omega)]; rfl
theorem wStep_long {l : List UInt8} {a : Nat} {f : Int} {ws : List (Nat × Nat)} (h : wKind l = 1) (h1 : 0 ≤ f) (h2 : 40 < (a : Int) + (uN l).2 - f) : wStep l a f ws = ((a : Int), wEnd f a ws) := by
  unfold wStep; rw [if_neg (by rw [h]; decide), if_neg (by rw [h]; decide), if_pos ⟨h1, h2⟩]
theorem wStep_new {l : List UInt8} {a : Nat} {f : Int} {ws : List (Nat × Nat)} (h : wKind l = 1) (h1 : f < 0) : wStep l a f ws = ((a : Int), ws) := by
  unfold wStep; rw [if_neg (by rw [h]; decide), if_neg (by rw [h]; decide), if_neg (by rintro ⟨h3, _⟩; omega), if_pos h1]
theorem wStep_more {l : List UInt8} {a : Nat} {f : Int} {ws : List (Nat × Nat)} (h : wKind l = 1) (h1 : 0 ≤ f) (h2 : ¬ 40 < (a : Int) + (uN l).2 - f) : wStep l a f ws = (f, ws) := by
  unfold wStep; rw [if_neg (by rw [h]; decide), if_neg (by rw [h]; decide), if_neg (by rintro ⟨_, h3⟩; exact h2 h3), if_neg (by omega)]
theorem wEnd_len (f : Int) (t : Nat) (ws : List (Nat × Nat)) : (wEnd f t ws).length ≤ ws.length + 1 := by
  unfold wEnd; split <;> simp
end Go.Proofs.YtomcdhmcjndioaaGreatDoor
end
section
namespace Go.Proofs.YtomcdhmcjndioaaGreatDoor
open Go.RowKit
set_option linter.unusedVariables false

theorem WState.below {w w' : World} {g : Nat} {l : List UInt8} {f : Int} {ws : List (Nat × Nat)} (h : WState w g l f ws) (hb : Below w.heap.size w w') : WState w' g l f ws := by
  obtain ⟨h1, h2, v, h3, h4⟩ := h
  exact ⟨(hb.block _ (heap_lt h1)).trans h1, (hb.block _ (heap_lt h2)).trans h2, v, (hb.block _ (heap_lt h3)).trans h3, h4.below hb⟩
theorem WState.iter {w : World} {g : Nat} {l : List UInt8} {f : Int} {ws : List (Nat × Nat)} (h : WState w g l f ws) (s : ByteArray) (p : Nat) : WState (w.iterAt (g + 3) s p) g l f ws := by
  obtain ⟨h1, h2, v, h3, h4⟩ := h
  exact ⟨(Lib.iterAt_other w (g + 3) g s p (by omega)).trans h1, (Lib.iterAt_other w (g + 3) (g + 2) s p (by omega)).trans h2, v, (Lib.iterAt_other w (g + 3) (g + 1) s p (by omega)).trans h3, ownsRow_block h4 fun b e => Lib.iterAt_other w (g + 3) b s p (by have := (h4.lt b e).1; omega)⟩
theorem WState.from_ {w : World} {g : Nat} {l : List UInt8} {f : Int} {ws : List (Nat × Nat)} (h : WState w g l f ws) : w.cell? ⟨g + 1 + 1, 0, none⟩ = some (.int .i64 f) ∧ w.frozen? ⟨g + 1 + 1, 0, none⟩ = false := ⟨cell_box h.2.1, frozen_box h.2.1⟩
theorem words_new (w : World) (l : List UInt8) : WState ((((w.alloc (.cells #[.string (ba l)] 9)).alloc (.cells #[.slice none 0 0] 66)).alloc (.cells #[.int .i64 (-1)] 3)).alloc (.stringIter (ba l) 0)) w.heap.size l (-1) [] := by
  have s1 : (w.alloc (.cells #[.string (ba l)] 9)).heap.size = w.heap.size + 1 := by simp
  have s2 : ((w.alloc (.cells #[.string (ba l)] 9)).alloc (.cells #[.slice none 0 0] 66)).heap.size = w.heap.size + 2 := by simp
  have h1 := (MapKept.heap_alloc w (.cells #[.string (ba l)] 9)).1
  have h2 := (MapKept.heap_alloc (w.alloc (.cells #[.string (ba l)] 9)) (.cells #[.slice none 0 0] 66)).1
  have h3 := (MapKept.heap_alloc ((w.alloc (.cells #[.string (ba l)] 9)).alloc (.cells #[.slice none 0 0] 66)) (.cells #[.int .i64 (-1)] 3)).1
  rw [s1] at h2
  rw [s2] at h3
  refine ⟨?_, ?_, .slice none 0 0, ?_, OwnWords.nil_ _ _ _⟩
  · rw [heap_alloc_old _ _ (by simp only [World.size_alloc]; omega), heap_alloc_old _ _ (by simp only [World.size_alloc]; omega), heap_alloc_old _ _ (by simp only [World.size_alloc]; omega)]; exact h1
  · rw [heap_alloc_old _ _ (by simp only [World.size_alloc]; omega)]; exact h3
  · rw [heap_alloc_old _ _ (by simp only [World.size_alloc]; omega), heap_alloc_old _ _ (by simp only [World.size_alloc]; omega)]; exact h2
/-- What Words has at the head of its loop. -/
def WordsRel (w : World) (l : List UInt8) (pos : Nat) (wr : World) : Prop :=
  ∃ f ws, WState wr w.heap.size l f ws ∧ wr.heap[w.heap.size + 3]? = some (.stringIter (ba l) pos) ∧ Below w.heap.size w wr ∧ wFrom (l.drop pos) pos f ws = rangesP l ∧ ws.length ≤ 2 * pos ∧ (f = -1 ∨ 0 ≤ f ∧ f ≤ pos)
def WordsBack (w : World) (l : List UInt8) (e : Ending) (w' : World) : Prop := ∃ v, e = .returned v ∧ OwnWords w' w.heap.size v l (rangesP l) ∧ Below w.heap.size w w'
theorem OwnWords.more {w : World} {B B' : Nat} {v : Value} {l : List UInt8} {ws : List (Nat × Nat)} (h : OwnWords w B v l ws) (hB : B' ≤ B) : OwnWords w B' v l ws := by
  refine ⟨h.1, ?_⟩
  rcases h.2 with h | ⟨g, cap, cur, h1, h2, h3⟩
  · exact .inl h
  · exact .inr ⟨g, cap, cur, h1, by omega, h3⟩
set_option maxRecDepth 100000 in
set_option maxHeartbeats 4000000 in
theorem words_any (l : List UInt8) (w : World) (hf : fSpans w w.heap.size) (hk : kSpans w w.heap.size) (hl : l.length ≤ 100000000) : Calls Tryz.prog 36 #[.string (ba l)] w (WordsBack w l) := by
  have HSF := Lib.hid hf
  have HSK := Lib.hid hk
  have hsz : (ba l).size = l.length := ba_size l
  have HSZ := Lib.hid hsz
  rw [← hsz] at hl
  clear hsz hf hk
  go_enter Tryz.func36, Tryz.ntmps36
  go_wp2
  go_loopw [] (fun wr => ∃ pos : Nat, pos ≤ (ba l).size ∧ Hid (WordsRel w l pos wr)) (fun wr => (ba l).size - wr.iterPos (w.heap.size + 3))
  case atStart =>
    refine ⟨0, Nat.zero_le _, -1, [], words_new w l, ?_, (((Below.refl w.heap.size w).alloc (Nat.le_refl _) _).alloc (by simp) _).alloc (by simp; omega) _ |>.alloc (by simp; omega) _, rfl, by simp, .inl rfl⟩
    have := (MapKept.heap_alloc (((w.alloc (.cells #[.string (ba l)] 9)).alloc (.cells #[.slice none 0 0] 66)).alloc (.cells #[.int .i64 (-1)] 3)) (.stringIter (ba l) 0)).1
    rw [World.size_alloc, World.size_alloc, World.size_alloc] at this
    exact this
  case round =>
    obtain ⟨pos, hpos, HR⟩ := hrel
    obtain ⟨f, ws, hst, hit, hbw, hfr, hlen, hff⟩ := HR.out
    have hszr : w.heap.size + 3 < wr.heap.size := heap_lt hit
    by_cases hp : pos < (ba l).size
    · have hne : l.drop pos ≠ [] := by intro e; have := congrArg List.length e; rw [List.length_drop, ← HSZ.out] at this; simp at this; omega
      have hnx0 : ∀ ty, (Instr.next (.pointer (some ⟨w.heap.size + 3, 0, none⟩)) true ty).run Tryz.prog wr = _ := fun ty => Lib.run_next_any_at wr (w.heap.size + 3) (ba l) pos ty hit hp
      have hdec : Utf8.decode (ba l) pos = uN (l.drop pos) := uN_at l pos
      have hup := uN_pos _ hne
      have hrl := fun h => runeLen_unit hne h
      have hkb := @wKind_bad (l.drop pos)
      have hko := @wKind_ok (l.drop pos)
      rw [wFrom_cons hne, List.drop_drop] at hfr
      obtain ⟨st, hstp⟩ : ∃ q, wStep (l.drop pos) pos f ws = q := ⟨_, rfl⟩
      have s0 := @wStep_none (l.drop pos) pos f ws
      have s1 := @wStep_own (l.drop pos) pos f ws
      have s2 := @wStep_long (l.drop pos) pos f ws
      have s3 := @wStep_new (l.drop pos) pos f ws
      have s4 := @wStep_more (l.drop pos) pos f ws
      rw [hstp] at hfr s0 s1 s2 s3 s4
      obtain ⟨⟨r, n⟩, hrn⟩ : ∃ q, uN (l.drop pos) = q := ⟨_, rfl⟩
      rw [hrn] at hdec hup hrl hkb hko hfr s1 s2 s4
      rw [hdec] at hnx0
      dsimp only at hup hrl hkb hko hfr hnx0 s1 s2 s4
      rw [List.length_drop, ← HSZ.out] at hup
      have hst2 := hst.iter (ba l) (pos + n)
      have hit2 := Lib.iterAt_heap wr (w.heap.size + 3) (ba l) pos (pos + n) hit
      have hbw2 := Lib.below_iterAt hbw (k := w.heap.size + 3) (by omega) (ba l) (pos + n)
      have hsz2 : w.heap.size + 3 < (wr.iterAt (w.heap.size + 3) (ba l) (pos + n)).heap.size := by rw [Lib.iterAt_size]; omega
      obtain ⟨W, hW⟩ : ∃ W, wr.iterAt (w.heap.size + 3) (ba l) (pos + n) = W := ⟨_, rfl⟩
      rw [hW] at hnx0 hst2 hit2 hbw2 hsz2
      have hnx := hnx0
      have HST := Lib.hid hst2
      have HIT := Lib.hid hit2
      have HBW := Lib.hid hbw2
      have HIT0 := Lib.hid hit
      have HKB := Lib.hid hkb
      have HKO := Lib.hid hko
      have HRL := Lib.hid hrl
      have HS := Lib.hid (And.intro s0 (And.intro s1 (And.intro s2 (And.intro s3 s4))))
      have HFIN := Lib.hid (show ∀ (W : World) (f' : Int) (ws' : List (Nat × Nat)), st = (f', ws') → WState W w.heap.size l f' ws' → W.heap[w.heap.size + 3]? = some (.stringIter (ba l) (pos + n)) → Below w.heap.size w W → ws'.length ≤ 2 * (pos + n) → (f' = -1 ∨ 0 ≤ f' ∧ f' ≤ pos) → WordsRel w l (pos + n) W from
        fun W f' ws' e h1 h2 h3 h4 h5 => ⟨f', ws', h1, h2, h3, by rw [e] at hfr; exact hfr, h4, by omega⟩)
      have HLN := Lib.hid hlen
      have HFF := Lib.hid hff
      clear hnx0 hrn hdec hst hst2 hit hit2 hbw hbw2 hfr hlen hff hkb hko hrl s0 s1 s2 s3 s4 HR hstp hW
      have hi0 : (0 : Int) ≤ (pos : Int) := by omega
      have hi1 : (pos : Int) < ((ba l).size : Int) := by omega
      by_cases hr : r = 65533
      · have hreq : ((r : Int) == 65533) = true := by simp [hr]
        have HRE := Lib.hid (show Lib.runeLen (r : Int) = 3 by rw [hr]; decide)
        have HWK := Lib.hid (HKB.out hr)
        clear hr
        go_wp2_with fail
        refine (Tryz.utf8_RuneLen (r : Int) W).mono ?_
        rintro e w1 ⟨rfl, rfl⟩
        rw [HRE.out]
        go_wp2_with fail
        refine (kind_any r w1 ((HSK.out.below HBW.out).more HBW.out.size) (by omega)).mono ?_
        rintro e w2 ⟨rfl, hb2⟩
        have HST2 := Lib.hid (HST.out.below hb2)
        have HBW2 := Lib.hid (HBW.out.trans (hb2.mono HBW.out.size))
        have HIT2 := Lib.hid ((hb2.block _ (heap_lt HIT.out)).trans HIT.out)
        clear hb2
        go_wp2_with fail
        refine (end_any w.heap.size l f ws pos w2 (by rw [← HSZ.out]; omega) (by rw [← HSZ.out]; omega) HFF.out HST2.out (by have := HLN.out; omega) (HSF.out.below HBW2.out) (heap_lt HIT2.out)).mono ?_
        rintro e w3 ⟨rfl, hst3, hO3, hi3⟩
        have HST3 := Lib.hid hst3
        have HBW3 := Lib.hid (HBW2.out.trans (hO3.below HBW2.out.size (fun k h => h)))
        have HIT3 := Lib.hid (hi3.trans HIT2.out)
        have hln3 := wEnd_len f pos ws
        have HLN3 := Lib.hid (show (wEnd f pos ws).length ≤ 2 * pos + 1 by have := HLN.out; omega)
        clear hst3 hO3 hi3 hln3
        have HF := Lib.hid (show w3.heap[w.heap.size + 3]? = some (.stringIter (ba l) (pos + n)) ∧ WordsRel w l (pos + n) w3 from ⟨HIT3.out, HFIN.out w3 _ _ (HS.out.1 HWK.out) HST3.out HIT3.out HBW3.out (by have := HLN3.out; omega) (.inl rfl)⟩)
        go_wp2
        go_roundw
        case rel => exact ⟨pos + n, by omega, HF.out.2⟩
        case measure =>
          simp only [World.iterPos, HF.out.1, HIT0.out]
          omega
      · have hreq : ((r : Int) == 65533) = false := by simp; omega
        have HRE := Lib.hid (HRL.out hr)
        have HWO := Lib.hid (HKO.out hr)
        clear hr
        go_wp2_with fail
        refine (Tryz.utf8_RuneLen (r : Int) W).mono ?_
        rintro e w1 ⟨rfl, rfl⟩
        rw [HRE.out]
        go_wp2_with fail
        refine (kind_any r w1 ((HSK.out.below HBW.out).more HBW.out.size) (by omega)).mono ?_
        rintro e w2 ⟨rfl, hb2⟩
        have HST2 := Lib.hid (HST.out.below hb2)
        have HBW2 := Lib.hid (HBW.out.trans (hb2.mono HBW.out.size))
        have HIT2 := Lib.hid ((hb2.block _ (heap_lt HIT.out)).trans HIT.out)
        clear hb2
        obtain ⟨kd, hkd⟩ : ∃ x, kindP (r : Int) = x := ⟨_, rfl⟩
        have hkc := wKind_cases (l.drop pos)
        rw [HWO.out, hkd] at hkc
        rw [hkd]
        have HKD := Lib.hid (HWO.out.trans hkd)
        clear hkd
        rcases hkc with rfl | rfl | rfl
        · have HWK := Lib.hid HKD.out
          go_wp2_with fail
          refine (end_any w.heap.size l f ws pos w2 (by rw [← HSZ.out]; omega) (by rw [← HSZ.out]; omega) HFF.out HST2.out (by have := HLN.out; omega) (HSF.out.below HBW2.out) (heap_lt HIT2.out)).mono ?_
          rintro e w3 ⟨rfl, hst3, hO3, hi3⟩
          have HST3 := Lib.hid hst3
          have HBW3 := Lib.hid (HBW2.out.trans (hO3.below HBW2.out.size (fun k h => h)))
          have HIT3 := Lib.hid (hi3.trans HIT2.out)
          have hln3 := wEnd_len f pos ws
          have HLN3 := Lib.hid (show (wEnd f pos ws).length ≤ 2 * pos + 1 by have := HLN.out; omega)
          clear hst3 hO3 hi3 hln3
          have HF := Lib.hid (show w3.heap[w.heap.size + 3]? = some (.stringIter (ba l) (pos + n)) ∧ WordsRel w l (pos + n) w3 from ⟨HIT3.out, HFIN.out w3 _ _ (HS.out.1 HWK.out) HST3.out HIT3.out HBW3.out (by have := HLN3.out; omega) (.inl rfl)⟩)
          go_wp2
          go_roundw
          case rel => exact ⟨pos + n, by omega, HF.out.2⟩
          case measure =>
            simp only [World.iterPos, HF.out.1, HIT0.out]
            omega
        · obtain ⟨c2, f2⟩ := HST2.out.from_
          rcases HFF.out with hf | ⟨hf0, hf1⟩
          · subst hf
            have HP := Lib.hid (HST2.out.put (pos : Int))
            have HF := Lib.hid (show (w2.setCell ⟨w.heap.size + 1 + 1, 0, none⟩ (.int .i64 (pos : Int))).heap[w.heap.size + 3]? = some (.stringIter (ba l) (pos + n)) ∧ WordsRel w l (pos + n) (w2.setCell ⟨w.heap.size + 1 + 1, 0, none⟩ (.int .i64 (pos : Int))) from by
              have hi := HP.out.2.2.trans HIT2.out
              exact ⟨hi, HFIN.out _ _ _ (HS.out.2.2.2.1 HKD.out (by omega)) HP.out.1 hi (HBW2.out.trans (HP.out.2.1.below HBW2.out.size (fun k h => h))) (by have := HLN.out; omega) (.inr ⟨by omega, by omega⟩)⟩)
            go_wp2
            go_roundw
            case rel => exact ⟨pos + n, by omega, HF.out.2⟩
            case measure =>
              simp only [World.iterPos, HF.out.1, HIT0.out]
              omega
          · by_cases hlong : (40 : Int) < (pos : Int) + (n : Int) - f
            · have HX := Lib.hid (HS.out.2.2.1 HKD.out hf0 hlong)
              go_wp2_with fail
              refine (end_any w.heap.size l f ws pos w2 (by rw [← HSZ.out]; omega) (by rw [← HSZ.out]; omega) HFF.out HST2.out (by have := HLN.out; omega) (HSF.out.below HBW2.out) (heap_lt HIT2.out)).mono ?_
              rintro e w3 ⟨rfl, hst3, hO3, hi3⟩
              have HST3 := Lib.hid hst3
              have HBW3 := Lib.hid (HBW2.out.trans (hO3.below HBW2.out.size (fun k h => h)))
              have HIT3 := Lib.hid (hi3.trans HIT2.out)
              have hln3 := wEnd_len f pos ws
              have HLN3 := Lib.hid (show (wEnd f pos ws).length ≤ 2 * pos + 1 by have := HLN.out; omega)
              clear hst3 hO3 hi3 hln3
              obtain ⟨d2, g2⟩ := HST3.out.from_
              have HP := Lib.hid (HST3.out.put (pos : Int))
              have HF := Lib.hid (show (w3.setCell ⟨w.heap.size + 1 + 1, 0, none⟩ (.int .i64 (pos : Int))).heap[w.heap.size + 3]? = some (.stringIter (ba l) (pos + n)) ∧ WordsRel w l (pos + n) (w3.setCell ⟨w.heap.size + 1 + 1, 0, none⟩ (.int .i64 (pos : Int))) from by
                have hi := HP.out.2.2.trans HIT3.out
                exact ⟨hi, HFIN.out _ _ _ HX.out HP.out.1 hi (HBW3.out.trans (HP.out.2.1.below HBW3.out.size (fun k h => h))) (by have := HLN3.out; omega) (.inr ⟨by omega, by omega⟩)⟩)
              go_wp2
              go_roundw
              case rel => exact ⟨pos + n, by omega, HF.out.2⟩
              case measure =>
                simp only [World.iterPos, HF.out.1, HIT0.out]
                omega
            · have HX := Lib.hid (HS.out.2.2.2.2 HKD.out hf0 (by omega))
              have HF := Lib.hid (show w2.heap[w.heap.size + 3]? = some (.stringIter (ba l) (pos + n)) ∧ WordsRel w l (pos + n) w2 from ⟨HIT2.out, HFIN.out _ _ _ HX.out HST2.out HIT2.out HBW2.out (by have := HLN.out; omega) (.inr ⟨hf0, hf1⟩)⟩)
              go_wp2
              go_roundw
              case rel => exact ⟨pos + n, by omega, HF.out.2⟩
              case measure =>
                simp only [World.iterPos, HF.out.1, HIT0.out]
                omega
        · have HX := Lib.hid (HS.out.2.1 HKD.out)
          go_wp2_with fail
          refine (end_any w.heap.size l f ws pos w2 (by rw [← HSZ.out]; omega) (by rw [← HSZ.out]; omega) HFF.out HST2.out (by have := HLN.out; omega) (HSF.out.below HBW2.out) (heap_lt HIT2.out)).mono ?_
          rintro e w3 ⟨rfl, hst3, hO3, hi3⟩
          have HST3 := Lib.hid hst3
          have HBW3 := Lib.hid (HBW2.out.trans (hO3.below HBW2.out.size (fun k h => h)))
          have HIT3 := Lib.hid (hi3.trans HIT2.out)
          have hln3 := wEnd_len f pos ws
          have HLN3 := Lib.hid (show (wEnd f pos ws).length ≤ 2 * pos + 1 by have := HLN.out; omega)
          clear hst3 hO3 hi3 hln3
          obtain ⟨d2, g2⟩ := HST3.out.from_
          have HP := Lib.hid (HST3.out.put (pos : Int))
          go_wp2_with fail
          rw [show ((pos : Int) + (n : Int)) = ((pos + n : Nat) : Int) from by omega]
          obtain ⟨W4, hW4⟩ : ∃ W4, w3.setCell ⟨w.heap.size + 1 + 1, 0, none⟩ (.int .i64 (pos : Int)) = W4 := ⟨_, rfl⟩
          have HP4 : Hid (WState W4 w.heap.size l pos (wEnd f pos ws) ∧ Off (fun k => w.heap.size ≤ k) w3 W4 ∧ W4.heap[w.heap.size + 3]? = w3.heap[w.heap.size + 3]?) := by rw [← hW4]; exact HP
          rw [hW4]
          clear HP hW4 d2 g2
          have HBW4 := Lib.hid (HBW3.out.trans (HP4.out.2.1.below HBW3.out.size (fun k h => h)))
          have HIT4 := Lib.hid (HP4.out.2.2.trans HIT3.out)
          refine (end_any w.heap.size l (pos : Int) (wEnd f pos ws) (pos + n) W4 (by rw [← HSZ.out]; omega) (by rw [← HSZ.out]; omega) (.inr ⟨by omega, by omega⟩) HP4.out.1 (by have := HLN3.out; omega) (HSF.out.below HBW4.out) (heap_lt HIT4.out)).mono ?_
          rintro e w5 ⟨rfl, hst5, hO5, hi5⟩
          have HST5 := Lib.hid hst5
          have HBW5 := Lib.hid (HBW4.out.trans (hO5.below HBW4.out.size (fun k h => h)))
          have HIT5 := Lib.hid (hi5.trans HIT4.out)
          have HLN5 := Lib.hid (show (wEnd (pos : Int) (pos + n) (wEnd f pos ws)).length ≤ 2 * pos + 2 by have := wEnd_len (pos : Int) (pos + n) (wEnd f pos ws); have := HLN3.out; omega)
          clear hst5 hO5 hi5
          have HF := Lib.hid (show w5.heap[w.heap.size + 3]? = some (.stringIter (ba l) (pos + n)) ∧ WordsRel w l (pos + n) w5 from ⟨HIT5.out, HFIN.out w5 _ _ HX.out HST5.out HIT5.out HBW5.out (by have := HLN5.out; omega) (.inl rfl)⟩)
          go_wp2
          go_roundw
          case rel => exact ⟨pos + n, by omega, HF.out.2⟩
          case measure =>
            simp only [World.iterPos, HF.out.1, HIT0.out]
            omega
    · have hpe : pos = (ba l).size := by omega
      have hnx : ∀ ty, (Instr.next (.pointer (some ⟨w.heap.size + 3, 0, none⟩)) true ty).run Tryz.prog wr = _ := fun ty => Lib.run_next_end_at wr (w.heap.size + 3) (ba l) pos ty hit hp
      have c0 : wr.cell? ⟨w.heap.size, 0, none⟩ = some (.string (ba l)) := cell_box hst.1
      have HST := Lib.hid hst
      have HIT := Lib.hid hit
      have HBW := Lib.hid hbw
      have HFF := Lib.hid hff
      have HLN := Lib.hid hlen
      have HFR := Lib.hid (show wEnd f pos ws = rangesP l by
        rw [← hfr, List.drop_of_length_le (by rw [← HSZ.out]; omega), wFrom_nil])
      clear hst hit hbw hff hlen hfr HR
      go_wp2_with fail
      rw [show (((ba l).size : Nat) : Int) = ((pos : Nat) : Int) from by omega]
      refine (end_any w.heap.size l f ws pos wr (by rw [← HSZ.out]; omega) (by rw [← HSZ.out]; omega) HFF.out HST.out (by have := HLN.out; omega) (HSF.out.below HBW.out) (heap_lt HIT.out)).mono ?_
      rintro e w3 ⟨rfl, hst3, hO3, hi3⟩
      rw [HFR.out] at hst3
      obtain ⟨-, -, v, hv1, hv2⟩ := hst3
      have HV := Lib.hid hv2
      have c1 := cell_box hv1
      have HBW3 := Lib.hid (HBW.out.trans (hO3.below HBW.out.size (fun k h => h)))
      clear hv1 hv2 hO3 hi3
      go_wp2
      go_ret
      exact ⟨v, rfl, HV.out.more (by omega), HBW3.out⟩
end Go.Proofs.YtomcdhmcjndioaaGreatDoor
end
