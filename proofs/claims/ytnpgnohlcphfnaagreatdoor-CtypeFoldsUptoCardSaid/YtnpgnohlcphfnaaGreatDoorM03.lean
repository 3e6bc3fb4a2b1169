/- strings.Builder, written and read: contracts over a builder of the call's own (copyCheck's panic is out of the model's reach, so the shelf does not lay the writers). Layer 10: the contract of Join. Layer 10, plain: the meaning of a quoted token, byte by byte with a flag. strings.Builder: a builder at block b whose buffer lies behind block k0 (a row of bytes of the call's own, laid behind the builder): WriteByte leaves all up to k0 but b alone. A block of bytes that the call has laid ([]byte(s), make([]byte, n)): read, stored into, made a string again. The contract of small (ctype): lower case of ASCII letters. A row of bytes of the call's own: append of one byte, and its string. The reference of layer 12: the contracts of Small, find, has, letter, Word and Text. -/
import Derived.Test.YtnpgnohlcphfnaaGreatDoorShelf
import Derived.Shelf.Strings.BuilderK
import Derived.Shelf.Strings.BuilderRune
import Derived.Laws.IdiomStrings
import Derived.Laws.Rows
import Derived.ShutString
import Derived.Laws.BytesArg
import Derived.Lib.UnsafeStr
import Derived.Test.YtnpgnohlcphfnaaGreatDoorM01
import Derived.Test.YtnpgnohlcphfnaaGreatDoorM02
section
namespace Go.Proofs.YtnpgnohlcphfnaaGreatDoor
open Go.RowKit
set_option linter.unusedVariables false

/-- The builder at block b holds the bytes l; its memory lies from B on. -/
def Bld (w : World) (B b : Nat) (l : List UInt8) : Prop := Lib.IsBuilderF 73 5 B b (Lib.byteCells l) w
theorem bld_new (w : World) : Bld (w.alloc (.cells #[.pointer none, .slice none 0 0] 73)) w.heap.size w.heap.size [] := Lib.IsBuilderF.of (Lib.fresh_isBuilder 73 5 w)
theorem Bld.alloc {w : World} {B b : Nat} {l : List UInt8} (h : Bld w B b l) (o : Obj) : Bld (w.alloc o) B b l := Lib.IsBuilderF.alloc h o
theorem Bld.below {w w' : World} {B b : Nat} {l : List UInt8} (h : Bld w B b l) (hb : Below w.heap.size w w') : Bld w' B b l := by
  have key : ∀ p, Lib.BuilderAtF 73 5 B b p (Lib.byteCells l) w → Lib.BuilderAtF 73 5 B b p (Lib.byteCells l) w' := by
    rintro p ⟨h1, v, h2, h3, h4⟩
    refine ⟨h1, v, (hb.block b (heap_lt h2)).trans h2, ?_, h4⟩
    obtain ⟨e0, h3⟩ := h3
    refine ⟨e0, ?_⟩
    rcases h3 with h3 | ⟨g, cap, cur, fz, e, q1, q2, q3⟩
    · exact .inl h3
    · exact .inr ⟨g, cap, cur, fz, e, q1, (hb.block g (heap_lt q2)).trans q2, q3⟩
  exact h.elim (fun h => .inl (key _ h)) (fun h => .inr (key _ h))
theorem Bld.lt {w : World} {B b : Nat} {l : List UInt8} (h : Bld w B b l) : b < w.heap.size := by
  rcases h with ⟨_, v, hb, _⟩ | ⟨_, v, hb, _⟩ <;> exact heap_lt hb
theorem Bld.base {w : World} {B b : Nat} {l : List UInt8} (h : Bld w B b l) : B ≤ b := by
  rcases h with ⟨h, _⟩ | ⟨h, _⟩ <;> exact h
/-- What a writer leaves. -/
structure Wrote (w : World) (B b : Nat) (l : List UInt8) (w' : World) : Prop where
  bld : Bld w' B b l
  bel : Below B w w'
  oth : Lib.OthersKept 5 (some b) w w'
def WrotePost (w : World) (B b : Nat) (l : List UInt8) (v : Value) (e : Ending) (w' : World) : Prop := e = .returned v ∧ Wrote w B b l w'

theorem size_builder : (Tryz.prog.info? 73).map (·.size) = some 2 := by kernel_rfl
theorem lies_builder : liesAt Tryz.prog Tryz.prog.depth 73 (2 / Tryz.prog.cellsOf 73) 0 73 1 = true := by kernel_rfl
theorem info_byte : (Tryz.prog.info? 5).map (fun i => (i.zero, i.size, i.bytes)) = some (some (.int .u8 0), 1, 1) := by kernel_rfl

set_option maxRecDepth 100000 in
theorem check_used (b : Nat) (w : World) (h0 : w.cell? ⟨b, 0, none⟩ = some (.pointer (some ⟨b, 0, none⟩))) :
    Calls Tryz.prog 94 #[.pointer (some ⟨b, 0, none⟩)] w fun e w' => e = .returned (.tuple #[]) ∧ w' = w := by
  obtain ⟨j, hj, _⟩ := Option.map_eq_some_iff.1 size_builder
  go_enter Tryz.func94, Tryz.ntmps94
  go_wp2
  rw [Lib.run_neq_ptr_same w _ Tryz.underlying71 hj]
  go_wp2
  go_end0
  exact ⟨rfl, rfl⟩
set_option maxRecDepth 100000 in
theorem check_fresh (b : Nat) (w : World) (h0 : w.cell? ⟨b, 0, none⟩ = some (.pointer none)) (hsh : w.shape? b = some (73, 2)) (hfz : w.frozen? ⟨b, 0, none⟩ = false) :
    Calls Tryz.prog 94 #[.pointer (some ⟨b, 0, none⟩)] w fun e w' => e = .returned (.tuple #[]) ∧ w' = w.setCell ⟨b, 0, none⟩ (.pointer (some ⟨b, 0, none⟩)) := by
  obtain ⟨j, hj, hjs⟩ := Option.map_eq_some_iff.1 size_builder
  go_enter Tryz.func94, Tryz.ntmps94
  go_wp2
  rw [Lib.run_to_unsafe w ⟨b, 0, none⟩ Tryz.underlying71 Tryz.underlying160 hj (by rw [hjs]; decide) hsh (Nat.zero_lt_succ 1)]
  simp only [Result.andThen]
  rw [Oper.upon_value]
  go_wp2
  rw [run_callFunc_extern Tryz.func130 (by kernel_rfl) (by kernel_rfl) (by kernel_rfl) (e := Extern.AbiNoEscape.same) (by kernel_rfl)]
  rw [Lib.run_noEscape]
  simp only [Result.andThen]
  rw [Oper.upon_value]
  go_wp2
  rw [Lib.run_from_unsafe w ⟨b, 0, none⟩ Tryz.underlying160 Tryz.underlying71 hj hsh lies_builder]
  simp only [Result.andThen]
  rw [Oper.upon_value]
  go_wp2
  go_end0
  exact ⟨rfl, rfl⟩
def CheckPost (w : World) (B b : Nat) (bs : List Value) (e : Ending) (w' : World) : Prop := e = .returned (.tuple #[]) ∧ Lib.BuilderAtF 73 5 B b (.pointer (some ⟨b, 0, none⟩)) bs w' ∧ Below B w w' ∧ Lib.OthersKept 5 (some b) w w'
theorem check_any (B b : Nat) (bs : List Value) (w : World) (h : Lib.IsBuilderF 73 5 B b bs w) : Calls Tryz.prog 94 #[.pointer (some ⟨b, 0, none⟩)] w (CheckPost w B b bs) := by
  rcases h with h | h
  · refine (check_fresh b w h.cell0 h.shape h.frozen0).mono ?_
    rintro e w' ⟨rfl, rfl⟩
    exact ⟨rfl, h.used _, (Below.refl B w).setCell (p := ⟨b, 0, none⟩) h.1 _, (Lib.OthersKept.refl _ _ w).setCell ⟨b, 0, none⟩ rfl _⟩
  · refine (check_used b w h.cell0).mono ?_
    rintro e w' ⟨rfl, rfl⟩
    exact ⟨rfl, h, Below.refl B _, Lib.OthersKept.refl _ _ _⟩

set_option maxHeartbeats 2000000 in
set_option maxRecDepth 100000 in
theorem write_byte (B b : Nat) (l : List UInt8) (c : UInt8) (w : World) (h : Bld w B b l) (hlen : l.length + 1 ≤ 140737488355328) (hBw : B ≤ w.heap.size) :
    Calls Tryz.prog 76 #[.pointer (some ⟨b, 0, none⟩), .int .u8 c.toNat] w (WrotePost w B b (l ++ [c]) .nilIface) := by
  obtain ⟨i0, hi, hz0, hz1, hz2⟩ := info_parts info_byte
  obtain ⟨bs, hbs⟩ : ∃ x, Lib.byteCells l = x := ⟨_, rfl⟩
  have hbl : bs.length = l.length := by rw [← hbs, Lib.byteCells_length]
  unfold Bld at h
  rw [hbs] at h
  rw [← hbl] at hlen
  have HBS := Lib.hid hbs
  have H := Lib.hid h
  clear hbs hbl h
  obtain ⟨u, hu⟩ : ∃ x : Int, (c.toNat : Int) = x := ⟨_, rfl⟩
  rw [hu]
  have HU := Lib.hid hu
  clear hu
  go_enter Tryz.func76, Tryz.ntmps76
  go_wp2_with fail
  refine (check_any B b bs _ H.out).mono ?_
  rintro e w1 ⟨rfl, h1, hb1, hk1⟩
  obtain ⟨hB, v, hbk, hown, hne⟩ := h1
  have c0 : w1.cell? ⟨b, 0, none⟩ = some (.pointer (some ⟨b, 0, none⟩)) := by rw [Lib.cell_of_heap hbk]; rfl
  have c1 : w1.cell? ⟨b, 1, none⟩ = some v := by rw [Lib.cell_of_heap hbk]; rfl
  go_wp2_with (at_builtin; refine wpList_append_ownF _ rfl _ _ 59 rfl B 5 i0 (.int .u8 0) 1 1 Tryz.underlying59 hi hz0 hz1 hz2 rfl (by decide) _ _ _ rfl (hown.alloc _) ⟨w1.heap.size, 0, none⟩ 1 1 [.int .u8 u] rfl rfl ?c1 ?c2 ?c3 ?c4 ?c5 ?_)
  case c1 =>
    intro j u hj
    match j, hj with
    | 0, hj => simp at hj; subst hj; simp [Addr.add]
  case c2 => intro u hu; simp at hu; subst hu; rfl
  case c3 => unfold maxLen; omega
  case c4 => omega
  case c5 => have := hb1.size; simp; omega
  intro v' w2 hown' hgrow _
  have hlt : b < w1.heap.size := heap_lt hbk
  have hb2 : w2.heap[b]? = some (.cells #[.pointer (some ⟨b, 0, none⟩), v] 73 (0, 0)) := by
    rw [hgrow.block b (by simp; omega) (fun e => hne e.symm), Lib.alloc_old w1 _ b hlt]
    exact hbk
  have d0 : w2.cell? ⟨b, 0, none⟩ = some (.pointer (some ⟨b, 0, none⟩)) := by rw [Lib.cell_of_heap hb2]; rfl
  have d1 : w2.cell? ⟨b, 1, none⟩ = some v := by rw [Lib.cell_of_heap hb2]; rfl
  have f1 : w2.frozen? ⟨b, 1, none⟩ = false := Lib.frozen_of_heap hb2 1
  obtain ⟨g, cap, rfl⟩ : ∃ g cap, v' = .slice (some ⟨g, 0, none⟩) (bs.length + 1) cap := by
    rcases hown'.2 with ⟨_, h0⟩ | ⟨g, cap, cur, fz, hv, _⟩
    · omega
    · exact ⟨g, cap, hv⟩
  go_wp2
  go_ret
  refine ⟨rfl, ?_, ?_, ((hk1.alloc _).grown hgrow (Lib.ownsRowF_kind (hown.alloc _))).setCell ⟨b, 1, none⟩ rfl _⟩
  · have e1 : Lib.byteCells (l ++ [c]) = bs ++ [.int .u8 u] := by rw [Lib.byteCells_append, HBS.out, ← HU.out]; rfl
    unfold Bld
    rw [e1]
    exact .inr (Lib.BuilderAtF.put (T := 73) (e := 5) hB hb2 (bs' := bs ++ [.int .u8 u]) (by simpa using hown') (by decide))
  · exact ((hb1.alloc (by have := hb1.size; omega) _).grown hgrow (by have := hb1.size; simp; omega) (fun k hk => (hown.lt k hk).1)).setCell (p := ⟨b, 1, none⟩) hB _

set_option maxHeartbeats 2000000 in
set_option maxRecDepth 100000 in
theorem write_string (B b : Nat) (l t : List UInt8) (w : World) (h : Bld w B b l) (hlen : l.length + t.length ≤ 140737488355328) (hBw : B ≤ w.heap.size) :
    Calls Tryz.prog 60 #[.pointer (some ⟨b, 0, none⟩), .string (ba t)] w (WrotePost w B b (l ++ t) (.tuple #[.int .i64 (t.length : Nat), .nilIface])) := by
  obtain ⟨i0, hi, hz0, hz1, hz2⟩ := info_parts info_byte
  obtain ⟨bs, hbs⟩ : ∃ x, Lib.byteCells l = x := ⟨_, rfl⟩
  have hbl : bs.length = l.length := by rw [← hbs, Lib.byteCells_length]
  obtain ⟨s, hs⟩ : ∃ x, ba t = x := ⟨_, rfl⟩
  have hsz : s.size = t.length := by rw [← hs, ba_size]
  have hsc : Lib.strCells s = Lib.byteCells t := by rw [← hs]; rfl
  unfold Bld at h
  rw [hbs] at h
  rw [← hbl, ← hsz] at hlen
  rw [hs]
  have HBS := Lib.hid hbs
  have H := Lib.hid h
  have HSZ := Lib.hid hsz
  have HSC := Lib.hid hsc
  clear hbs hbl h hs hsz hsc
  go_enter Tryz.func60, Tryz.ntmps60
  go_wp2_with fail
  refine (check_any B b bs _ H.out).mono ?_
  rintro e w1 ⟨rfl, h1, hb1, hk1⟩
  obtain ⟨hB, v, hbk, hown, hne⟩ := h1
  have c0 : w1.cell? ⟨b, 0, none⟩ = some (.pointer (some ⟨b, 0, none⟩)) := by rw [Lib.cell_of_heap hbk]; rfl
  have c1 : w1.cell? ⟨b, 1, none⟩ = some v := by rw [Lib.cell_of_heap hbk]; rfl
  go_wp2_with (at_builtin; refine Lib.wpList_append_own_stringF _ rfl _ _ 59 9 rfl B 5 i0 Tryz.underlying59 Tryz.underlying9 hi hz0 hz1 hz2 _ _ _ rfl hown s rfl ?c3 ?c4 ?c5 ?_)
  case c3 => unfold maxLen; omega
  case c4 => omega
  case c5 => have := hb1.size; omega
  intro v' w2 hown' hgrow _
  have hlt : b < w1.heap.size := heap_lt hbk
  have hb2 : w2.heap[b]? = some (.cells #[.pointer (some ⟨b, 0, none⟩), v] 73 (0, 0)) := by
    rw [hgrow.block b hlt (fun e => hne e.symm)]
    exact hbk
  have d0 : w2.cell? ⟨b, 0, none⟩ = some (.pointer (some ⟨b, 0, none⟩)) := by rw [Lib.cell_of_heap hb2]; rfl
  have d1 : w2.cell? ⟨b, 1, none⟩ = some v := by rw [Lib.cell_of_heap hb2]; rfl
  have f1 : w2.frozen? ⟨b, 1, none⟩ = false := Lib.frozen_of_heap hb2 1
  obtain ⟨ao, n', cap, rfl⟩ : ∃ ao n' cap, v' = .slice ao n' cap := by
    rcases hown'.2 with ⟨hv, _⟩ | ⟨g, cap, cur, fz, hv, _⟩
    · exact ⟨_, _, _, hv⟩
    · exact ⟨_, _, _, hv⟩
  go_wp2
  go_ret2
  refine ⟨congrArg (fun n : Nat => Ending.returned (.tuple #[.int .i64 (n : Int), .nilIface])) HSZ.out, ?_, ?_, (hk1.grown hgrow (Lib.ownsRowF_kind hown)).setCell ⟨b, 1, none⟩ rfl _⟩
  · have e1 : Lib.byteCells (l ++ t) = bs ++ Lib.strCells s := by rw [Lib.byteCells_append, HBS.out, HSC.out]
    unfold Bld
    rw [e1]
    exact .inr (Lib.BuilderAtF.put (T := 73) (e := 5) hB hb2 (bs' := bs ++ Lib.strCells s) (by simpa [Lib.strCells_length] using hown') (by decide))
  · exact (hb1.grown hgrow (by have := hb1.size; omega) (fun k hk => (hown.lt k hk).1)).setCell (p := ⟨b, 1, none⟩) hB _

theorem bld_string (B b : Nat) (l : List UInt8) (w : World) (h : Bld w B b l) (hBw : B ≤ w.heap.size) :
    Calls Tryz.prog 61 #[.pointer (some ⟨b, 0, none⟩)] w (WrotePost w B b l (.string (ba l))) :=
  (Tryz.Builder_String_any_k B b l w h hBw).mono fun e w' ⟨he, h1, h2, h3⟩ => ⟨he, h1, h2, h3⟩
end Go.Proofs.YtnpgnohlcphfnaaGreatDoor
end
section
namespace Go.Proofs.YtnpgnohlcphfnaaGreatDoor
open Go.RowKit
set_option linter.unusedVariables false

/-- The state of Join's loop. -/
def JoinRel (w : World) (ts : List Tok) (k : Nat) (wr : World) : Prop := Bld wr w.heap.size w.heap.size (joinP (ts.take k)) ∧ Below w.heap.size w wr
theorem join_step (ts : List Tok) (k : Nat) (hk : k < ts.length) : joinP (ts.take (k + 1)) = joinP (ts.take k) ++ ts[k].text := by
  rw [List.take_succ_eq_append_getElem hk]
  unfold joinP
  rw [List.flatMap_append]
  simp
theorem join_le (ts : List Tok) (k : Nat) : (joinP (ts.take k)).length ≤ (joinP ts).length := by
  have h : joinP ts = joinP (ts.take k) ++ joinP (ts.drop k) := by
    unfold joinP
    rw [← List.flatMap_append, List.take_append_drop]
  rw [h, List.length_append]
  omega
set_option maxRecDepth 100000 in
set_option maxHeartbeats 4000000 in
theorem tjoin_any (ts : List Tok) (A : Option Addr) (n c : Nat) (w : World) (hT : Toks w w.heap.size A n ts) (hn : n ≤ 1000000000) (hj : (joinP ts).length ≤ 1000000000) :
    Calls Tryz.prog 31 #[.slice A n c] w fun e w' => e = .returned (.string (ba (joinP ts))) ∧ Below w.heap.size w w' := by
  go_enter Tryz.func31, Tryz.ntmps31
  have HT := Lib.hid hT
  obtain rfl : n = ts.length := hT.1
  obtain ⟨n, hn2⟩ : ∃ n, ts.length = n := ⟨_, rfl⟩
  have HN := Lib.hid hn2
  rw [hn2] at hn ⊢
  clear hT hn2
  have HB0 := Lib.hid (bld_new w)
  go_wp2
  go_loopw [8] (fun i wr => ∃ k : Nat, k ≤ n ∧ i = .int .i64 (k : Int) ∧ Hid (JoinRel w ts k wr)) (fun i _ => n - (intOf i).toNat)
  case atStart => exact ⟨0, Nat.zero_le _, rfl, HB0.out, (Below.refl _ _).alloc (Nat.le_refl _) _⟩
  case round =>
    obtain ⟨k, hk, rfl, HR⟩ := hrel
    have hsz := HR.out.2.size
    by_cases hlt : k < n
    · have hk2 : (k : Int) < n := by omega
      have hkl : k < ts.length := by rw [HN.out]; exact hlt
      obtain ⟨ad, rfl, hbl, c0, c1, c2⟩ := (HT.out.below HR.out.2).2 k hkl
      have HP := Lib.hid (join_step ts k hkl)
      have hle := join_le ts (k + 1)
      rw [HP.out] at hle
      obtain ⟨t, ht⟩ : ∃ t, ts[k] = t := ⟨_, rfl⟩
      rw [ht] at c0 c1 HP hle
      have hlen : (joinP (ts.take k)).length + t.text.length ≤ 140737488355328 := by
        rw [List.length_append] at hle
        omega
      have HLEN := Lib.hid hlen
      clear ht c2 hle hlen
      have HB1 := Lib.hid (HR.out.1.alloc (.cells #[.int .i64 t.kind, .string (ba t.text)] 85))
      have hB : w.heap.size ≤ (wr.alloc (.cells #[.int .i64 t.kind, .string (ba t.text)] 85)).heap.size := by simp; omega
      have HBEL := Lib.hid (HR.out.2.alloc hsz (.cells #[.int .i64 t.kind, .string (ba t.text)] 85))
      go_wp2_with fail
      refine (write_string _ _ _ t.text (wr.alloc (.cells #[.int .i64 t.kind, .string (ba t.text)] 85)) HB1.out HLEN.out hB).mono ?_
      rintro e w' ⟨rfl, hW⟩
      have HW := Lib.hid hW
      clear hW
      go_wp2
      go_roundw
      case rel =>
        refine ⟨k + 1, by omega, by go_num, ?_, HBEL.out.trans HW.out.bel⟩
        rw [HP.out]
        exact HW.out.bld
      case measure => simp [intOf] <;> omega
    · obtain rfl : k = n := by omega
      go_wp2_with fail
      refine (bld_string _ _ _ wr HR.out.1 hsz).mono ?_
      rintro e w' ⟨rfl, hW⟩
      have HW := Lib.hid hW
      clear hW
      go_wp2
      go_ret
      refine ⟨?_, HR.out.2.trans HW.out.bel⟩
      rw [List.take_of_length_le (by rw [HN.out]; exact Nat.le_refl _)]
      rfl
end Go.Proofs.YtnpgnohlcphfnaaGreatDoor
end
section
namespace Go.Proofs.YtnpgnohlcphfnaaGreatDoor
set_option linter.unusedVariables false

def unescF : Bool → List UInt8 → List UInt8
  | _, [] => []
  | true, c :: r => c :: unescF false r
  | false, c :: r => if c = 92 then unescF true r else if c = 10 ∨ c = 13 then unescF false r else c :: unescF false r
theorem unescF_eq : ∀ l, unescF false l = unescP l
  | [] => by unfold unescF unescP; rfl
  | [c] => by
    unfold unescP
    show (if c = 92 then unescF true [] else if c = 10 ∨ c = 13 then unescF false [] else c :: unescF false []) = _
    rw [show unescF true [] = [] from rfl, show unescF false [] = [] from rfl]
  | c :: x :: r => by
    have h1 := unescF_eq r
    have h2 := unescF_eq (x :: r)
    unfold unescP
    show (if c = 92 then unescF true (x :: r) else if c = 10 ∨ c = 13 then unescF false (x :: r) else c :: unescF false (x :: r)) = _
    rw [show unescF true (x :: r) = x :: unescF false r from rfl, h1, h2]
end Go.Proofs.YtnpgnohlcphfnaaGreatDoor
end
section
namespace Go.Proofs.YtnpgnohlcphfnaaGreatDoor
open Go.RowKit
set_option linter.unusedVariables false

/-- The builder at block b holds the bytes l; its memory lies behind block k0. -/
structure BldA (w : World) (b k0 : Nat) (l : List UInt8) : Prop where
  at_ : ∃ p v, Lib.BuilderAtF 73 5 b b p (Lib.byteCells l) w ∧ (p = .pointer none ∨ p = .pointer (some ⟨b, 0, none⟩)) ∧ w.heap[b]? = some (.cells #[p, v] 73 (0, 0)) ∧ w.ownsRowF (k0 + 1) 5 1 v (Lib.byteCells l).length (Lib.byteCells l)
  lt : b < k0 + 1 ∧ k0 < w.heap.size
theorem BldA.bld {w : World} {b k0 : Nat} {l : List UInt8} (h : BldA w b k0 l) : Bld w b b l := by
  obtain ⟨p, v, h1, h2 | h2, _⟩ := h.at_
  · exact .inl (h2 ▸ h1)
  · exact .inr (h2 ▸ h1)
theorem BldA.new {w : World} {b k0 : Nat} (hb : w.heap[b]? = some (.cells #[.pointer none, .slice none 0 0] 73 (0, 0))) (hlt : b < k0 + 1) (hk : k0 < w.heap.size) : BldA w b k0 [] := by
  refine ⟨⟨_, _, ⟨Nat.le_refl _, _, hb, ⟨rfl, .inl ⟨rfl, rfl⟩⟩, by simp [Value.ownBlock]⟩, .inl rfl, hb, ⟨rfl, .inl ⟨rfl, rfl⟩⟩⟩, hlt, hk⟩
/-- Blocks up to k0 but b stand. -/
def KeptA (w w' : World) (b k0 : Nat) : Prop := ∀ k, k ≤ k0 → k ≠ b → w'.heap[k]? = w.heap[k]?
def CheckPostA (w : World) (b k0 : Nat) (l : List UInt8) (e : Ending) (w' : World) : Prop := e = .returned (.tuple #[]) ∧ BldA w' b k0 l ∧ w'.cell? ⟨b, 0, none⟩ = some (.pointer (some ⟨b, 0, none⟩)) ∧ Below b w w' ∧ KeptA w w' b k0
theorem check_anyA (b k0 : Nat) (l : List UInt8) (w : World) (h : BldA w b k0 l) : Calls Tryz.prog 94 #[.pointer (some ⟨b, 0, none⟩)] w (CheckPostA w b k0 l) := by
  obtain ⟨⟨p, v, h1, h2, h3, h4⟩, h5⟩ := h
  rcases h2 with rfl | rfl
  · refine (check_fresh b w h1.cell0 h1.shape h1.frozen0).mono ?_
    rintro e w' ⟨rfl, rfl⟩
    have hk : (w.setCell ⟨b, 0, none⟩ (.pointer (some ⟨b, 0, none⟩))).heap[b]? = some (.cells #[.pointer (some ⟨b, 0, none⟩), v] 73 (0, 0)) := by
      have := heap_setCell_same w b 0 _ _ (.pointer (some ⟨b, 0, none⟩)) h3
      simpa using this
    have hv : ∀ g, v.ownBlock = some g → (w.setCell ⟨b, 0, none⟩ (.pointer (some ⟨b, 0, none⟩))).heap[g]? = w.heap[g]? := fun g hg => heap_setCell_other w ⟨b, 0, none⟩ g _ (by have := (h4.lt g hg).1; show g ≠ b; omega)
    refine ⟨rfl, ⟨⟨_, v, h1.used _, .inr rfl, hk, ?_⟩, h5.1, by simpa using h5.2⟩, by rw [Lib.cell_of_heap hk]; rfl, (Below.refl b w).setCell (p := ⟨b, 0, none⟩) (Nat.le_refl _) _, fun k _ hk => heap_setCell_other w ⟨b, 0, none⟩ k _ hk⟩
    obtain ⟨e0, h6⟩ := h4
    refine ⟨e0, ?_⟩
    rcases h6 with h6 | ⟨g, cap, cur, fz, e, q1, q2, q3⟩
    · exact .inl h6
    · exact .inr ⟨g, cap, cur, fz, e, q1, (hv g (by rw [e]; rfl)).trans q2, q3⟩
  · refine (check_used b w h1.cell0).mono ?_
    rintro e w' ⟨rfl, rfl⟩
    exact ⟨rfl, ⟨⟨_, v, h1, .inr rfl, h3, h4⟩, h5⟩, h1.cell0, Below.refl b _, fun _ _ _ => rfl⟩
def WroteA (w : World) (b k0 : Nat) (l : List UInt8) (v : Value) (e : Ending) (w' : World) : Prop := e = .returned v ∧ BldA w' b k0 l ∧ Below b w w' ∧ KeptA w w' b k0
set_option maxHeartbeats 2000000 in
set_option maxRecDepth 100000 in
theorem write_byteA (b k0 : Nat) (l : List UInt8) (c : UInt8) (w : World) (h : BldA w b k0 l) (hlen : l.length + 1 ≤ 140737488355328) :
    Calls Tryz.prog 76 #[.pointer (some ⟨b, 0, none⟩), .int .u8 c.toNat] w (WroteA w b k0 (l ++ [c]) .nilIface) := by
  obtain ⟨i0, hi, hz0, hz1, hz2⟩ := info_parts info_byte
  have H := Lib.hid h
  clear h
  obtain ⟨u, hu⟩ : ∃ x : Int, (c.toNat : Int) = x := ⟨_, rfl⟩
  rw [hu]
  have HU := Lib.hid hu
  clear hu
  go_enter Tryz.func76, Tryz.ntmps76
  go_wp2_with fail
  refine (check_anyA b k0 l _ H.out).mono ?_
  rintro e w1 ⟨rfl, ⟨⟨p, v, hB, hpp, hbk, hown⟩, hlt2⟩, c0, hb1, hk1⟩
  obtain rfl : p = .pointer (some ⟨b, 0, none⟩) := by
    have : w1.cell? ⟨b, 0, none⟩ = some p := by rw [Lib.cell_of_heap hbk]; rfl
    rw [this] at c0
    exact Option.some.inj c0
  have HBB := Lib.hid hB
  have HK1 := Lib.hid hk1
  have HLT := Lib.hid hlt2
  clear hB hpp hk1 hlt2
  obtain ⟨bs, hbs⟩ : ∃ x, Lib.byteCells l = x := ⟨_, rfl⟩
  have hbl : bs.length = l.length := by rw [← hbs, Lib.byteCells_length]
  rw [hbs] at hown
  rw [← hbl] at hlen
  have HBS := Lib.hid hbs
  clear hbs hbl
  have hb0 : k0 + 1 ≤ w1.heap.size := HLT.out.2
  have c1 : w1.cell? ⟨b, 1, none⟩ = some v := by rw [Lib.cell_of_heap hbk]; rfl
  have hne : v.ownBlock ≠ some b := fun e => by have := (hown.lt b e).1; have := HLT.out.1; omega
  go_wp2_with (at_builtin; refine wpList_append_ownF _ rfl _ _ 59 rfl (k0 + 1) 5 i0 (.int .u8 0) 1 1 Tryz.underlying59 hi hz0 hz1 hz2 rfl (by decide) _ _ _ rfl (hown.alloc _) ⟨w1.heap.size, 0, none⟩ 1 1 [.int .u8 u] rfl rfl ?c1 ?c2 ?c3 ?c4 ?c5 ?_)
  case c1 =>
    intro j u hj
    match j, hj with
    | 0, hj => simp at hj; subst hj; simp [Addr.add]
  case c2 => intro u hu; simp at hu; subst hu; rfl
  case c3 => unfold maxLen; omega
  case c4 => omega
  case c5 => simp; omega
  intro v' w2 hown' hgrow _
  have hlt : b < w1.heap.size := heap_lt hbk
  have hb2 : w2.heap[b]? = some (.cells #[.pointer (some ⟨b, 0, none⟩), v] 73 (0, 0)) := by
    rw [hgrow.block b (by simp; omega) (fun e => hne e.symm), Lib.alloc_old w1 _ b hlt]
    exact hbk
  have d0 : w2.cell? ⟨b, 0, none⟩ = some (.pointer (some ⟨b, 0, none⟩)) := by rw [Lib.cell_of_heap hb2]; rfl
  have d1 : w2.cell? ⟨b, 1, none⟩ = some v := by rw [Lib.cell_of_heap hb2]; rfl
  have f1 : w2.frozen? ⟨b, 1, none⟩ = false := Lib.frozen_of_heap hb2 1
  obtain ⟨g, cap, rfl⟩ : ∃ g cap, v' = .slice (some ⟨g, 0, none⟩) (bs.length + 1) cap := by
    rcases hown'.2 with ⟨_, h0⟩ | ⟨g, cap, cur, fz, hv, _⟩
    · omega
    · exact ⟨g, cap, hv⟩
  go_wp2
  go_ret
  have hgk : k0 + 1 ≤ g := (hown'.lt g rfl).1
  have e1 : Lib.byteCells (l ++ [c]) = bs ++ [Value.int .u8 u] := by rw [Lib.byteCells_append, HBS.out, ← HU.out]; rfl
  have hbn : (w2.setCell ⟨b, 1, none⟩ (.slice (some ⟨g, 0, none⟩) (bs.length + 1) cap)).heap[b]? = some (.cells #[.pointer (some ⟨b, 0, none⟩), .slice (some ⟨g, 0, none⟩) (bs.length + 1) cap] 73 (0, 0)) := by
    have := heap_setCell_same w2 b 1 _ _ (.slice (some ⟨g, 0, none⟩) (bs.length + 1) cap) hb2
    simpa using this
  have hgb : g ≠ b := by have := HLT.out.1; omega
  have howns : (w2.setCell ⟨b, 1, none⟩ (.slice (some ⟨g, 0, none⟩) (bs.length + 1) cap)).ownsRowF (k0 + 1) 5 1 (.slice (some ⟨g, 0, none⟩) (bs.length + 1) cap) (bs ++ [Value.int .u8 u]).length (bs ++ [Value.int .u8 u]) := by
    have h7 : w2.ownsRowF (k0 + 1) 5 1 (.slice (some ⟨g, 0, none⟩) (bs.length + 1) cap) (bs ++ [Value.int .u8 u]).length (bs ++ [Value.int .u8 u]) := by simpa using hown'
    obtain ⟨e0, h6⟩ := h7
    refine ⟨e0, ?_⟩
    rcases h6 with h6 | ⟨g2, cap2, cur, fz, e, q1, q2, q3⟩
    · exact .inl h6
    · have hg2 : g2 = g := by injection e with e; injection e with e; injection e with e; exact e.symm
      exact .inr ⟨g2, cap2, cur, fz, e, q1, (heap_setCell_other w2 ⟨b, 1, none⟩ g2 _ (by rw [hg2]; exact hgb)).trans q2, q3⟩
  refine ⟨rfl, ⟨⟨_, _, ?_, .inr rfl, hbn, ?_⟩, HLT.out.1, by have := hgrow.size; simp at this ⊢; omega⟩, ?_, ?_⟩
  · rw [e1]
    have hown3 : w2.ownsRowF b 5 1 (.slice (some ⟨g, 0, none⟩) (bs.length + 1) cap) (bs ++ [Value.int .u8 u]).length (bs ++ [Value.int .u8 u]) := by
      have h7 : w2.ownsRowF (k0 + 1) 5 1 (.slice (some ⟨g, 0, none⟩) (bs.length + 1) cap) (bs ++ [Value.int .u8 u]).length (bs ++ [Value.int .u8 u]) := by simpa using hown'
      obtain ⟨e0, h6⟩ := h7
      refine ⟨e0, ?_⟩
      rcases h6 with h6 | ⟨g2, cap2, cur, fz, e, q1, q2, q3⟩
      · exact .inl h6
      · exact .inr ⟨g2, cap2, cur, fz, e, by have := HLT.out.1; omega, q2, q3⟩
    exact Lib.BuilderAtF.put (T := 73) (e := 5) (Nat.le_refl b) hb2 hown3 (by decide)
  · rw [e1]; exact howns
  · exact ((hb1.alloc (by have := HLT.out.1; omega) _).grown hgrow (by simp; omega) (fun k hk => by have := (hown.lt k hk).1; have := HLT.out.1; omega)).setCell (p := ⟨b, 1, none⟩) (Nat.le_refl _) _
  · intro k hk hkb
    rw [heap_setCell_other w2 ⟨b, 1, none⟩ k _ hkb, hgrow.block k (by simp; omega) (fun e => by have := (hown.lt k e.symm).1; omega), Lib.alloc_old w1 _ k (by omega)]
    exact HK1.out k hk hkb
end Go.Proofs.YtnpgnohlcphfnaaGreatDoor
end
section
namespace Go.Proofs.YtnpgnohlcphfnaaGreatDoor
open Go.RowKit
set_option linter.unusedVariables false

/-- Block b begins with the bytes l; they are not frozen. -/
def ByteRow (w : World) (b : Nat) (l : List UInt8) : Prop :=
  ∃ C T fr, w.heap[b]? = some (.cells C T fr) ∧ (∀ j (hj : j < l.length), C[j]? = some (.int .u8 (l[j].toNat : Int))) ∧ (l.length ≤ fr.1 ∨ fr = (0, 0))
section
variable {w w' : World} {b : Nat} {l : List UInt8}
theorem ByteRow.lt (h : ByteRow w b l) : b < w.heap.size := by
  obtain ⟨C, T, fr, h1, _⟩ := h
  exact heap_lt h1
theorem ByteRow.kept (h : ByteRow w b l) (hb : w'.heap[b]? = w.heap[b]?) : ByteRow w' b l := by
  obtain ⟨C, T, fr, h1, h2⟩ := h
  exact ⟨C, T, fr, hb.trans h1, h2⟩
theorem ByteRow.drew (h : ByteRow w b l) : ByteRow w.drew b l := h
theorem ByteRow.cell (h : ByteRow w b l) {j : Nat} (hj : j < l.length) : w.cell? ⟨b, j, none⟩ = some (.int .u8 (l[j].toNat : Int)) := by
  obtain ⟨C, T, fr, h1, h2, _⟩ := h
  rw [← h2 j hj]
  unfold World.cell?
  rw [h1]
  simp
theorem ByteRow.free (h : ByteRow w b l) {j : Nat} (hj : j < l.length) : w.frozen? ⟨b, j, none⟩ = false := by
  obtain ⟨C, T, fr, h1, h2, h3⟩ := h
  unfold World.frozen?
  rw [h1]
  rcases h3 with h3 | rfl
  · simp; omega
  · simp
theorem ByteRow.set (h : ByteRow w b l) {k : Nat} (hk : k < l.length) (c : UInt8) : ByteRow (w.setCell ⟨b, k, none⟩ (.int .u8 (c.toNat : Int))) b (l.set k c) := by
  obtain ⟨C, T, fr, h1, h2, h3⟩ := h
  refine ⟨C.setIfInBounds k (.int .u8 (c.toNat : Int)), T, fr, ?_, fun j hj => ?_, by simpa using h3⟩
  · rw [setCell_eq_setRow w b k C T fr _ h1]
    exact setRow_heap w b C _ T _ h1
  · rw [List.length_set] at hj
    rw [Array.getElem?_setIfInBounds, List.getElem_set]
    by_cases e : k = j
    · subst e
      have := h2 k hk
      have hlt : k < C.size := (Array.getElem?_eq_some_iff.1 this).1
      simp [hlt]
    · rw [if_neg e, if_neg e]
      exact h2 j hj
theorem ByteRow.of_string (w : World) (l : List UInt8) (cap : Nat) (T : TypeId) (m : Nat) (hm : l.length ≤ m) : ByteRow (w.alloc (.cells (bytesRow (ba l) cap) T (m, m + 1))) w.heap.size l := by
  refine ⟨bytesRow (ba l) cap, T, (m, m + 1), ?_, fun j hj => ?_, .inl hm⟩
  · show (w.heap.push _)[w.heap.size]? = _
    simp
  · exact bytesRow_at (ba l) cap j (by simpa [ba] using hj)
theorem ByteRow.zeros (w : World) (n m : Nat) (T : TypeId) (hm : n ≤ m) : ByteRow (w.alloc (.cells (Array.replicate m (.int .u8 0)) T)) w.heap.size (List.replicate n 0) := by
  refine ⟨Array.replicate m (.int .u8 0), T, (0, 0), ?_, fun j hj => ?_, .inr rfl⟩
  · show (w.heap.push _)[w.heap.size]? = _
    simp
  · rw [List.length_replicate] at hj
    rw [List.getElem_replicate, Array.getElem?_replicate, if_pos (by omega)]
    rfl
theorem ByteRow.cells (h : ByteRow w b l) : ∀ j (hj : j < l.length), w.cell? (Addr.add ⟨b, 0, none⟩ j) = some (.int .u8 (l[j].toNat : Int)) := fun j hj => by
  have e : Addr.add ⟨b, 0, none⟩ j = ⟨b, j, none⟩ := by
    unfold Addr.add
    split
    · rename_i h0; rw [h0]
    · rw [Nat.zero_add]
  rw [e]
  exact h.cell hj
end
theorem bytesRow_size (s : ByteArray) (cap : Nat) (h : s.size ≤ cap) : (bytesRow s cap).size = cap := by
  unfold bytesRow
  rw [Array.size_append, Array.size_map, Array.size_replicate]
  have : s.data.size = s.size := rfl
  omega
end Go.Proofs.YtnpgnohlcphfnaaGreatDoor
end
section
namespace Go.Proofs.YtnpgnohlcphfnaaGreatDoor
open Go.RowKit
set_option linter.unusedVariables false

/-- A string handed back; what was there stands. -/
def StrB (w : World) (l : List UInt8) (e : Ending) (w' : World) : Prop := e = .returned (.string (ba l)) ∧ Below w.heap.size w w'
theorem smallB_yes {c : UInt8} (h : 65 ≤ (c.toNat : Int) ∧ (c.toNat : Int) ≤ 90) : smallB c = UInt8.ofNat (c.toNat + 32) := by
  unfold smallB
  have h1 : 65 ≤ c ∧ c ≤ 90 := by
    rw [UInt8.le_iff_toNat_le, UInt8.le_iff_toNat_le]
    show (65 : Nat) ≤ _ ∧ _ ≤ (90 : Nat)
    omega
  rw [if_pos h1]
  apply UInt8.toNat_inj.1
  rw [UInt8.toNat_add]
  simp
theorem smallB_no {c : UInt8} (h : ¬ (65 ≤ (c.toNat : Int) ∧ (c.toNat : Int) ≤ 90)) : smallB c = c := by
  unfold smallB
  have h1 : ¬ (65 ≤ c ∧ c ≤ 90) := by
    rw [UInt8.le_iff_toNat_le, UInt8.le_iff_toNat_le]
    show ¬ ((65 : Nat) ≤ _ ∧ _ ≤ (90 : Nat))
    omega
  rw [if_neg h1]
/-- The state of the loop: k bytes are done. -/
structure SmRel (w : World) (l : List UInt8) (k : Nat) (wr : World) : Prop where
  row : ByteRow wr w.heap.size (smallP (l.take k) ++ l.drop k)
  bel : Below w.heap.size w wr
theorem sm_len (l : List UInt8) (k : Nat) : (smallP (l.take k) ++ l.drop k).length = l.length := by
  rw [List.length_append, smallP_len, List.length_take, List.length_drop]
  omega
theorem sm_get {l : List UInt8} {k : Nat} (hk : k < l.length) (h : k < (smallP (l.take k) ++ l.drop k).length) : (smallP (l.take k) ++ l.drop k)[k] = l[k] := by
  rw [List.getElem_append_right (by rw [smallP_len, List.length_take]; omega)]
  simp only [smallP_len, List.length_take, List.getElem_drop]
  congr 1
  omega
theorem sm_step {l : List UInt8} {k : Nat} (hk : k < l.length) : smallP (l.take (k + 1)) ++ l.drop (k + 1) = (smallP (l.take k) ++ l.drop k).set k (smallB l[k]) := by
  rw [List.take_succ_eq_append_getElem hk]
  have e1 : smallP (l.take k ++ [l[k]]) = smallP (l.take k) ++ [smallB l[k]] := by unfold smallP; rw [List.map_append]; rfl
  have e2 : l.drop k = l[k] :: l.drop (k + 1) := List.drop_eq_getElem_cons hk
  have e3 : k - (smallP (l.take k)).length = 0 := by rw [smallP_len, List.length_take]; omega
  rw [e1, List.set_append_right _ _ (by rw [smallP_len, List.length_take]; omega), e3]
  conv => rhs; rw [e2]
  rw [List.append_assoc]
  rfl
theorem sm_same {l : List UInt8} {k : Nat} (hk : k < l.length) (h : smallB l[k] = l[k]) : smallP (l.take (k + 1)) ++ l.drop (k + 1) = smallP (l.take k) ++ l.drop k := by
  rw [sm_step hk, h]
  have h1 : k < (smallP (l.take k) ++ l.drop k).length := by rw [sm_len]; exact hk
  have := sm_get hk h1
  rw [← this, List.set_getElem_self]
set_option maxRecDepth 100000 in
set_option maxHeartbeats 4000000 in
theorem csmall_any (l : List UInt8) (w : World) (hl : l.length ≤ 1000000000) :
    Calls Tryz.prog 33 #[.string (ba l)] w (StrB w (smallP l)) := by
  have hcv := fun (W : World) (S : ByteArray) => run_bytes_of_string (P := Tryz.prog) W 9 59 5 S Tryz.underlying9 Tryz.underlying59 Tryz.underlying5
  have HR0 := Lib.hid (fun (cap m : Nat) (hm : l.length ≤ m) => ByteRow.of_string w l cap 5 m hm)
  obtain ⟨n, hn⟩ : ∃ n, l.length = n := ⟨_, rfl⟩
  have HL := Lib.hid hn
  obtain ⟨s, hs⟩ : ∃ s, ba l = s := ⟨_, rfl⟩
  have HS := Lib.hid hs
  have HZ := Lib.hid (show s.size = n by rw [← hs, ba_size, hn])
  have hsz : (s.size : Int) = n := by rw [HZ.out]
  rw [hs]
  rw [hn] at hl
  clear hs hn
  rw [HS.out] at HR0
  go_enter Tryz.func33, Tryz.ntmps33
  go_wp2
  obtain ⟨C, hC⟩ : ∃ C, grownCap w s.size 0 5 = C := ⟨_, rfl⟩
  have HCN := Lib.hid (show l.length ≤ (bytesRow s C).size by rw [bytesRow_size s C (by rw [← hC]; have := grownCap_ge w s.size 0 5; omega), ← hC, HL.out]; have := grownCap_ge w s.size 0 5; omega)
  rw [hC]
  clear hC hcv
  go_loopw [10] (fun i wr => ∃ k : Nat, k ≤ n ∧ i = .int .i64 (k : Int) ∧ Hid (SmRel w l k wr)) (fun i _ => n - (intOf i).toNat)
  case atStart =>
    refine ⟨0, Nat.zero_le _, rfl, Lib.hid ⟨?_, (Below.refl _ _).drew.alloc (Nat.le_refl _) _⟩⟩
    rw [show smallP (l.take 0) ++ l.drop 0 = l from rfl]
    exact (HR0.out C _ HCN.out).drew
  case round =>
    obtain ⟨k, hk, rfl, HR⟩ := hrel
    have hsz2 := HR.out.bel.size
    by_cases hlt : k < n
    · have hk2 : (k : Int) < (n : Int) := by omega
      have hk3 : (k : Int) < (s.size : Int) := by omega
      have hk0 : (0 : Int) ≤ (k : Int) := by omega
      have hkl : k < l.length := by rw [HL.out]; exact hlt
      have hks : k < (smallP (l.take k) ++ l.drop k).length := by rw [sm_len]; exact hkl
      have hcell := HR.out.row.cell hks
      have hfree := HR.out.row.free hks
      rw [sm_get hkl hks] at hcell
      have HST := Lib.hid (sm_step hkl)
      have HSA := Lib.hid (sm_same hkl)
      have HSET := Lib.hid (HR.out.row.set hks (smallB l[k]))
      obtain ⟨c, hc⟩ : ∃ c, l[k] = c := ⟨_, rfl⟩
      rw [hc] at hcell HST HSA HSET
      have HY := Lib.hid (smallB_yes (c := c))
      have HNO := Lib.hid (smallB_no (c := c))
      obtain ⟨x, hx⟩ : ∃ x : Int, (c.toNat : Int) = x := ⟨_, rfl⟩
      rw [hx] at hcell HY HNO
      have hx0 : 0 ≤ x := by omega
      have hx1 : x ≤ 255 := by have := c.toNat_lt; omega
      have HX := Lib.hid hx
      clear hc hkl hks hx
      by_cases e1 : 65 ≤ x
      · by_cases e2 : x ≤ 90
        · have g1 : decide (65 ≤ x) = true := decide_eq_true e1
          have g2 : decide (x ≤ 90) = true := decide_eq_true e2
          have HV := Lib.hid (show (smallB c).toNat = x + 32 by rw [HY.out ⟨e1, e2⟩]; have := HX.out; have := c.toNat_lt; simp; omega)
          go_wp2
          go_roundw
          case rel =>
            refine ⟨k + 1, by omega, by go_num, Lib.hid ⟨?_, HR.out.bel.setCell (Nat.le_refl _) _⟩⟩
            rw [HST.out]
            have := HSET.out
            rw [HV.out] at this
            exact this
          case measure => simp [intOf] <;> omega
        · have g1 : decide (65 ≤ x) = true := decide_eq_true e1
          have g2 : decide (x ≤ 90) = false := decide_eq_false e2
          have HV := Lib.hid (HSA.out (HNO.out fun h => e2 h.2))
          clear hfree
          go_wp2
          go_roundw
          case rel =>
            refine ⟨k + 1, by omega, by go_num, Lib.hid ⟨?_, HR.out.bel⟩⟩
            rw [HV.out]
            exact HR.out.row
          case measure => simp [intOf] <;> omega
      · have g1 : decide (65 ≤ x) = false := decide_eq_false e1
        have HV := Lib.hid (HSA.out (HNO.out fun h => e1 h.1))
        clear hfree
        go_wp2
        go_roundw
        case rel =>
          refine ⟨k + 1, by omega, by go_num, Lib.hid ⟨?_, HR.out.bel⟩⟩
          rw [HV.out]
          exact HR.out.row
        case measure => simp [intOf] <;> omega
    · obtain rfl : k = n := by omega
      have hrow : ByteRow wr w.heap.size (smallP l) := by
        have := HR.out.row
        rw [List.take_of_length_le (by rw [HL.out]; exact Nat.le_refl _), List.drop_of_length_le (by rw [HL.out]; exact Nat.le_refl _), List.append_nil] at this
        exact this
      have hback := run_convert_bytes_back (P := Tryz.prog) wr 59 9 5 ⟨w.heap.size, 0, none⟩ C (smallP l) Tryz.underlying59 Tryz.underlying5 Tryz.underlying9 hrow.cells
      rw [smallP_len, HL.out, ← HZ.out] at hback
      clear hrow hsz
      go_wp2
      go_ret
      exact ⟨rfl, HR.out.bel⟩
end Go.Proofs.YtnpgnohlcphfnaaGreatDoor
end
section
namespace Go.Proofs.YtnpgnohlcphfnaaGreatDoor
open Go.RowKit
set_option linter.unusedVariables false

theorem info_u8 : (Tryz.prog.info? 5).map (fun i => (i.zero, i.size, i.bytes)) = some (some (.int .u8 0), 1, 1) := by kernel_rfl
/-- v owns the bytes l, in memory from B on. -/
def OwnBytes (w : World) (B : Nat) (v : Value) (l : List UInt8) : Prop := w.ownsRow B 5 1 v l.length (Lib.byteCells l)
theorem OwnBytes.nil_ (w : World) (B : Nat) : OwnBytes w B (.slice none 0 0) [] := World.ownsRow_nil _ _ _ _
theorem OwnBytes.block {w w' : World} {B : Nat} {v : Value} {l : List UInt8} (h : OwnBytes w B v l) (hb : ∀ b, v.ownBlock = some b → w'.heap[b]? = w.heap[b]?) : OwnBytes w' B v l := ownsRow_block h hb
theorem wpList_pushByte {ops : Array Oper} {rest : List Oper} {o : Oper} {a : Act} {W : World} {Q : Exit → Act → World → Prop} {B : Nat} {y : UInt8} {u : Int} {v : Value} {l : List UInt8} (hown : OwnBytes W B v l) (hB : B ≤ W.heap.size)
    (hu : u = (y.toNat : Int)) (hlen : l.length < 1099511627776) (hgd : o.guard = none) (s x : Operand) (c : Nat)
    (ho : o.op = .call { callee := .builtin .append, args := #[s, x], argTypes := #[59, 59] })
    (hs : a.eval s = v) (hx : a.eval x = .slice (some ⟨W.heap.size, 0, none⟩) 1 c)
    (h : ∀ v' w', OwnBytes w' B v' (l ++ [y]) → W.grownBy w' v.ownBlock → (v'.ownBlock = v.ownBlock ∨ ∃ k, v'.ownBlock = some k ∧ W.heap.size ≤ k) → wpList Tryz.prog ops Q rest (a.put o.dst v') w') :
    wpList Tryz.prog ops Q (o :: rest) a (W.alloc (.cells #[.int .u8 u] 5)) := by
  obtain ⟨i0, hi, hz0, hz1, hz2⟩ := info_parts info_u8
  subst hu
  have hl : (Lib.byteCells l).length = l.length := Lib.byteCells_length l
  refine wpList_append_own_at _ hgd s x 59 ho B 5 i0 _ 1 1 Tryz.underlying59 hi hz0 hz1 hz2 rfl (by omega) v l.length (Lib.byteCells l) hs (World.ownsRow.alloc hown _) ⟨W.heap.size, 0, none⟩ 1 c [.int .u8 y.toNat] hx rfl (cell_one_new _ _ _) ?_ (by simp only [maxLen]; omega) (by omega) (by simp; omega) ?_
  · intro u hu; simp at hu; subst hu; rfl
  · intro v' w' h1 h2 _ h4
    refine h v' w' ?_ ?_ ?_
    · unfold OwnBytes
      rw [Lib.byteCells_append, List.length_append]
      exact h1
    · have h5 := World.grownBy_alloc W (.cells #[.int .u8 y.toNat] 5) v.ownBlock
      exact ⟨h2.os.trans h5.os, h2.tape.trans h5.tape, h2.output.trans h5.output, Nat.le_trans h5.size h2.size, fun k hk hne => (h2.block k (by simp; omega) hne).trans (h5.block k hk hne)⟩
    · rcases h4 with h4 | h4
      · exact .inl h4
      · exact .inr ⟨_, h4, by simp⟩
/-- 'string(b)'. -/
theorem OwnBytes.str {w : World} {B : Nat} {v : Value} {l : List UInt8} (h : OwnBytes w B v l) : (convert 59 9 v).run Tryz.prog w = .ok (.string (ba l)) w := by
  rcases h.2 with ⟨rfl, h0⟩ | ⟨g, cap, cur, rfl, _⟩
  · have : l = [] := List.eq_nil_of_length_eq_zero h0
    subst this
    exact run_convert_bytes_nil (P := Tryz.prog) (w := w) 59 5 Tryz.underlying59 Tryz.underlying5 0 0 9 Tryz.underlying9
  · exact run_convert_bytes_back w 59 9 5 ⟨g, 0, none⟩ cap l Tryz.underlying59 Tryz.underlying5 Tryz.underlying9 fun j hj => h.cells (g := g) rfl j _ (by simp [Lib.byteCells, hj])
end Go.Proofs.YtnpgnohlcphfnaaGreatDoor
end
section
namespace Go.Proofs.YtnpgnohlcphfnaaGreatDoor
open Go.RowKit
set_option linter.unusedVariables false

theorem u8_int_eq' {c d : UInt8} : (c.toNat : Int) = (d.toNat : Int) ↔ c = d := ⟨fun h => UInt8.toNat_inj.1 (by omega), fun h => by rw [h]⟩
theorem u8i (c : UInt8) : 0 ≤ (c.toNat : Int) ∧ (c.toNat : Int) ≤ 255 := by have := c.toNat_lt; omega
theorem OwnBytes.shape {w : World} {B : Nat} {v : Value} {l : List UInt8} (h : OwnBytes w B v l) : ∃ A c, v = .slice A l.length c := by
  rcases h.2 with ⟨rfl, h0⟩ | ⟨g, cap, cur, rfl, hb, hg, q1, q2, q3⟩
  · exact ⟨none, 0, by rw [h0]⟩
  · exact ⟨_, cap, rfl⟩
def RSmRel (w : World) (l : List UInt8) (k : Nat) (v : Value) (wr : World) : Prop := OwnBytes wr w.heap.size v (smallP (l.take k)) ∧ Below w.heap.size w wr
theorem smallP_snoc {l : List UInt8} {k : Nat} (hk : k < l.length) : smallP (l.take (k + 1)) = smallP (l.take k) ++ [smallB l[k]] := by
  rw [List.take_succ_eq_append_getElem hk]
  unfold smallP
  rw [List.map_append]
  rfl
set_option maxRecDepth 100000 in
set_option maxHeartbeats 4000000 in
theorem rsmall_any (l : List UInt8) (w : World) (hl : l.length ≤ 1000000000) :
    Calls Tryz.prog 39 #[.string (ba l)] w (StrB w (smallP l)) := by
  obtain ⟨n, hn⟩ : ∃ n, l.length = n := ⟨_, rfl⟩
  have HL := Lib.hid hn
  obtain ⟨s, hs⟩ : ∃ s, ba l = s := ⟨_, rfl⟩
  have HS := Lib.hid hs
  have HZ := Lib.hid (show s.size = n by rw [← hs, ba_size, hn])
  have hsz : (s.size : Int) = n := by rw [HZ.out]
  rw [hs]
  rw [hn] at hl
  clear hs hn
  go_enter Tryz.func39, Tryz.ntmps39
  go_wp2
  go_loopw [3, 4, 5] (fun v i c wr => ∃ (k : Nat) (x : Value), c = x ∧ k ≤ n ∧ i = .int .i64 (k : Int) ∧ Hid (RSmRel w l k v wr)) (fun _ i _ _ => n - (intOf i).toNat)
  case atStart => exact ⟨0, _, rfl, Nat.zero_le _, rfl, OwnBytes.nil_ _ _, Below.refl _ _⟩
  case round =>
    obtain ⟨k, xc, rfl, hk, rfl, HR⟩ := hrel
    have hB := HR.out.2.size
    by_cases hlt : k < n
    · have hk2 : (k : Int) < (n : Int) := by omega
      have hk0 : (0 : Int) ≤ (k : Int) := by omega
      have hks : k < s.size := by rw [HZ.out]; omega
      have hkl : k < l.length := by rw [HL.out]; omega
      have hget : s[k] = l[k] := by
        have h := HS.out
        subst h
        rfl
      have HT := Lib.hid (smallP_snoc hkl)
      have HAL := Lib.hid (show (smallP (l.take k)).length < 1099511627776 by rw [smallP_len, List.length_take]; omega)
      obtain ⟨c, hc⟩ : ∃ c, l[k] = c := ⟨_, rfl⟩
      rw [hc] at hget HT
      obtain ⟨x, hx⟩ : ∃ x : Int, (c.toNat : Int) = x := ⟨_, rfl⟩
      have hgi : ((s[k]).toNat : Int) = x := by rw [hget]; exact hx
      have HX := Lib.hid hx
      have hx0 : 0 ≤ x := by omega
      have hx1 : x ≤ 255 := by have := c.toNat_lt; omega
      clear hc hkl hget hx
      have HY := Lib.hid (smallB_yes (c := c))
      have HNO := Lib.hid (smallB_no (c := c))
      have HOWN := Lib.hid HR.out.1
      have HBEL := Lib.hid HR.out.2
      clear HR
      by_cases e1 : 65 ≤ x ∧ x ≤ 90
      · have g1 : decide (65 ≤ x) = true := decide_eq_true e1.1
        have g2 : decide (x ≤ 90) = true := decide_eq_true e1.2
        have hx2 : x ≤ 90 := e1.2
        have HYB := Lib.hid (show x + 32 = ((smallB c).toNat : Int) by rw [HY.out (by rw [HX.out]; exact e1)]; have := HX.out; have := c.toNat_lt; simp; omega)
        clear e1
        go_wp2_with (at_builtin; go_must (refine wpList_pushByte (y := smallB c) HOWN.out hB HYB.out HAL.out rfl (.tmp 23) (.tmp 25) 1 rfl rfl rfl ?_); intro v2 w2 h1 h2 h3; (have H1 := Lib.hid h1; have H2 := Lib.hid h2; clear h1 h2 h3))
        go_roundw
        case rel =>
          refine ⟨k + 1, _, rfl, by omega, by go_num, ?_, HBEL.out.grown H2.out hB fun g e => (World.ownsRow.lt HOWN.out g e).1⟩
          rw [HT.out]
          exact H1.out
        case measure => simp [intOf] <;> omega
      · have HYB := Lib.hid (show x = ((smallB c).toNat : Int) by rw [HNO.out (by rw [HX.out]; exact e1)]; exact HX.out.symm)
        by_cases e2 : 65 ≤ x
        · have g1 : decide (65 ≤ x) = true := decide_eq_true e2
          have g2 : decide (x ≤ 90) = false := decide_eq_false fun h => e1 ⟨e2, h⟩
          clear e1 e2
          go_wp2_with (at_builtin; go_must (refine wpList_pushByte (y := smallB c) HOWN.out hB HYB.out HAL.out rfl (.tmp 23) (.tmp 25) 1 rfl rfl rfl ?_); intro v2 w2 h1 h2 h3; (have H1 := Lib.hid h1; have H2 := Lib.hid h2; clear h1 h2 h3))
          go_roundw
          case rel =>
            refine ⟨k + 1, _, rfl, by omega, by go_num, ?_, HBEL.out.grown H2.out hB fun g e => (World.ownsRow.lt HOWN.out g e).1⟩
            rw [HT.out]
            exact H1.out
          case measure => simp [intOf] <;> omega
        · have g1 : decide (65 ≤ x) = false := decide_eq_false e2
          clear e1 e2
          go_wp2_with (at_builtin; go_must (refine wpList_pushByte (y := smallB c) HOWN.out hB HYB.out HAL.out rfl (.tmp 23) (.tmp 25) 1 rfl rfl rfl ?_); intro v2 w2 h1 h2 h3; (have H1 := Lib.hid h1; have H2 := Lib.hid h2; clear h1 h2 h3))
          go_roundw
          case rel =>
            refine ⟨k + 1, _, rfl, by omega, by go_num, ?_, HBEL.out.grown H2.out hB fun g e => (World.ownsRow.lt HOWN.out g e).1⟩
            rw [HT.out]
            exact H1.out
          case measure => simp [intOf] <;> omega
    · obtain rfl : k = n := by omega
      have hown : OwnBytes wr w.heap.size u3 (smallP l) := by
        have := HR.out.1
        rw [List.take_of_length_le (by rw [HL.out]; exact Nat.le_refl _)] at this
        exact this
      have hconv := hown.str
      clear hown
      go_wp2
      go_ret
      exact ⟨rfl, HR.out.2⟩
/-- The index of the first byte c, or -1. -/
def findV (c : UInt8) (l : List UInt8) : Int := match cutP c l with
  | some q => (q.1.length : Int)
  | none => -1
def FindRel (c : UInt8) (l : List UInt8) (k : Nat) : Prop := cutP c l = (cutP c (l.drop k)).map fun q => (l.take k ++ q.1, q.2)
theorem find_step {c : UInt8} {l : List UInt8} {k : Nat} (hk : k < l.length) (h : FindRel c l k) (hne : l[k] ≠ c) : FindRel c l (k + 1) := by
  unfold FindRel at h ⊢
  rw [h, List.drop_eq_getElem_cons hk]
  conv => lhs; unfold cutP
  rw [if_neg hne, Option.map_map]
  congr 1
  funext q
  show (l.take k ++ (l[k] :: q.1), q.2) = (l.take (k + 1) ++ q.1, q.2)
  rw [List.take_succ_eq_append_getElem hk, List.append_assoc]
  rfl
theorem find_hit {c : UInt8} {l : List UInt8} {k : Nat} (hk : k < l.length) (h : FindRel c l k) (he : l[k] = c) : findV c l = (k : Int) := by
  unfold FindRel at h
  unfold findV
  have e : cutP c (l[k] :: l.drop (k + 1)) = some ([], l.drop (k + 1)) := by
    unfold cutP
    rw [if_pos he]
  rw [h, List.drop_eq_getElem_cons hk, e]
  show ((l.take k ++ []).length : Int) = k
  rw [List.append_nil, List.length_take]
  omega
theorem find_end {c : UInt8} {l : List UInt8} {k : Nat} (hk : l.length ≤ k) (h : FindRel c l k) : findV c l = -1 := by
  unfold FindRel at h
  unfold findV
  rw [h, List.drop_of_length_le hk]
  rfl
set_option maxRecDepth 100000 in
set_option maxHeartbeats 4000000 in
theorem rfind_any (l : List UInt8) (z : UInt8) (w : World) (hl : l.length ≤ 1000000000) :
    Calls Tryz.prog 37 #[.string (ba l), .int .u8 (z.toNat : Int)] w fun e w' => e = .returned (.int .i64 (findV z l)) ∧ w' = w := by
  obtain ⟨n, hn⟩ : ∃ n, l.length = n := ⟨_, rfl⟩
  have HL := Lib.hid hn
  obtain ⟨s, hs⟩ : ∃ s, ba l = s := ⟨_, rfl⟩
  have HS := Lib.hid hs
  have HZ := Lib.hid (show s.size = n by rw [← hs, ba_size, hn])
  have hsz : (s.size : Int) = n := by rw [HZ.out]
  rw [hs]
  rw [hn] at hl
  clear hs hn
  obtain ⟨zi, hzi⟩ : ∃ x : Int, (z.toNat : Int) = x := ⟨_, rfl⟩
  have HZI := Lib.hid hzi
  rw [hzi]
  clear hzi
  go_enter Tryz.func37, Tryz.ntmps37
  go_wp2
  go_loop [5] (fun i => ∃ k : Nat, k ≤ n ∧ i = .int .i64 (k : Int) ∧ Hid (FindRel z l k)) (fun i => n - (intOf i).toNat)
  case atStart => exact ⟨0, Nat.zero_le _, rfl, Lib.hid (by unfold FindRel; simp)⟩
  case round =>
    obtain ⟨k, hk, rfl, HR⟩ := hrel
    by_cases hlt : k < n
    · have hk2 : (k : Int) < (n : Int) := by omega
      have hk0 : (0 : Int) ≤ (k : Int) := by omega
      have hks : k < s.size := by rw [HZ.out]; omega
      have hkl : k < l.length := by rw [HL.out]; omega
      have hget : s[k] = l[k] := by
        have h := HS.out
        subst h
        rfl
      have HST := Lib.hid (find_step hkl HR.out)
      have HIT := Lib.hid (find_hit hkl HR.out)
      obtain ⟨c, hc⟩ : ∃ c, l[k] = c := ⟨_, rfl⟩
      rw [hc] at hget HST HIT
      obtain ⟨x, hx⟩ : ∃ x : Int, (c.toNat : Int) = x := ⟨_, rfl⟩
      have hgi : ((s[k]).toNat : Int) = x := by rw [hget]; exact hx
      have HX := Lib.hid hx
      have hx0 : 0 ≤ x := by omega
      have hx1 : x ≤ 255 := by have := c.toNat_lt; omega
      clear hc hkl hget hx
      by_cases e1 : x = zi
      · have g1 : (x == zi) = true := by simpa using e1
        have HV := Lib.hid (HIT.out (u8_int_eq'.1 (by rw [HX.out, HZI.out]; exact e1)))
        clear e1
        go_wp2
        go_ret
        exact ⟨by rw [HV.out]; rfl, rfl⟩
      · have g1 : (x == zi) = false := by simpa using e1
        have HV := Lib.hid (HST.out fun h => e1 (by rw [← HX.out, ← HZI.out, h]))
        clear e1
        go_wp2
        go_round
        case rel => exact ⟨k + 1, by omega, by go_num, HV⟩
        case measure => simp [intOf] <;> omega
    · obtain rfl : k = n := by omega
      have HV := Lib.hid (find_end (by rw [HL.out]; exact Nat.le_refl _) HR.out)
      go_wp2
      go_ret
      exact ⟨by rw [HV.out]; rfl, rfl⟩
theorem findV_has (c : UInt8) (l : List UInt8) : decide (0 ≤ findV c l) = l.contains c := by
  unfold findV
  cases h : cutP c l with
  | none =>
    have := cutP_none.1 h
    simp [this]
  | some q =>
    obtain ⟨a, b⟩ := q
    have := (cutP_some h).1
    simp [this]
theorem rhas_any (l : List UInt8) (z : UInt8) (w : World) (hl : l.length ≤ 1000000000) :
    Calls Tryz.prog 43 #[.string (ba l), .int .u8 (z.toNat : Int)] w fun e w' => e = .returned (.bool (l.contains z)) ∧ w' = w := by
  have HF := Lib.hid (fun W => rfind_any l z W hl)
  have HV := Lib.hid (findV_has z l)
  obtain ⟨v, hv⟩ : ∃ v, findV z l = v := ⟨_, rfl⟩
  simp only [hv] at HF HV
  clear hv
  go_enter Tryz.func43, Tryz.ntmps43
  go_wp2_with fail
  refine (HF.out w).mono ?_
  rintro e w' ⟨rfl, rfl⟩
  go_wp2
  go_ret
  exact ⟨by rw [← HV.out]; rfl, rfl⟩
theorem u8_le_int (c d : UInt8) : (c ≤ d) ↔ (c.toNat : Int) ≤ (d.toNat : Int) := by rw [UInt8.le_iff_toNat_le]; omega
theorem letterB_int (c : UInt8) : letterB c = (decide (97 ≤ (c.toNat : Int)) && decide ((c.toNat : Int) ≤ 122) || decide (65 ≤ (c.toNat : Int)) && decide ((c.toNat : Int) ≤ 90) || decide (48 ≤ (c.toNat : Int)) && decide ((c.toNat : Int) ≤ 57)) := by
  unfold letterB
  rw [Bool.eq_iff_iff]
  simp only [Bool.or_eq_true, Bool.and_eq_true, decide_eq_true_iff, u8_le_int]
  rfl
/-- Where a byte lies: what the tests of letter find. -/
theorem letterV {c : UInt8} {x : Int} (h : (c.toNat : Int) = x) {b : Bool} (hb : (decide (97 ≤ x) && decide (x ≤ 122) || decide (65 ≤ x) && decide (x ≤ 90) || decide (48 ≤ x) && decide (x ≤ 57)) = b) : letterB c = b := by
  subst h
  rw [letterB_int, hb]
theorem rletter_any (c : UInt8) (w : World) : Calls Tryz.prog 44 #[.int .u8 (c.toNat : Int)] w fun e w' => e = .returned (.bool (letterB c)) ∧ w' = w := by
  obtain ⟨x, hx⟩ : ∃ x : Int, (c.toNat : Int) = x := ⟨_, rfl⟩
  have HF := Lib.hid (fun b => letterV hx (b := b))
  rw [hx]
  clear hx
  go_enter Tryz.func44, Tryz.ntmps44
  go_wp2
  all_goals
    go_ret
    refine ⟨?_, rfl⟩
    rw [HF.out _ rfl]
    show Ending.returned (Value.bool _) = Ending.returned (Value.bool _)
    congr 2
    rw [Bool.eq_iff_iff]
    simp only [Bool.or_eq_true, Bool.and_eq_true, decide_eq_true_iff]
    first | omega | (simp; omega)
theorem wb_snoc {l : List UInt8} {k : Nat} (hk : k < l.length) : (l.take (k + 1)).all wordB = ((l.take k).all wordB && wordB l[k]) := by
  rw [List.take_succ_eq_append_getElem hk, List.all_append]
  simp
theorem isWord_stop {l : List UInt8} {k : Nat} (hk : k < l.length) (h : wordB l[k] = false) : isWord l = false := by
  unfold isWord
  have : l.all wordB = false := by
    rw [List.all_eq_false]
    exact ⟨l[k], List.getElem_mem hk, by rw [h]; decide⟩
  rw [this]
  rfl
theorem rwhas_any (z : UInt8) (w : World) : Calls Tryz.prog 43 #[.string ⟨#[33, 35, 36, 38, 94, 95, 46, 43, 45]⟩, .int .u8 (z.toNat : Int)] w fun e w' => e = .returned (.bool (wordBytes.contains z)) ∧ w' = w := rhas_any wordBytes z w (by decide)
set_option maxRecDepth 100000 in
set_option maxHeartbeats 4000000 in
theorem rword_any (l : List UInt8) (w : World) (hl : l.length ≤ 1000000000) :
    Calls Tryz.prog 38 #[.string (ba l)] w fun e w' => e = .returned (.bool (isWord l)) ∧ w' = w := by
  have HEM := Lib.hid (show isWord l = (l.all wordB && decide (0 < (l.length : Int))) by
    unfold isWord
    cases l with
    | nil => rfl
    | cons a r => simp)
  obtain ⟨n, hn⟩ : ∃ n, l.length = n := ⟨_, rfl⟩
  have HL := Lib.hid hn
  obtain ⟨s, hs⟩ : ∃ s, ba l = s := ⟨_, rfl⟩
  have HS := Lib.hid hs
  have HZ := Lib.hid (show s.size = n by rw [← hs, ba_size, hn])
  have hsz : (s.size : Int) = n := by rw [HZ.out]
  rw [hs]
  rw [hn] at hl
  clear hs hn
  rw [HL.out] at HEM
  go_enter Tryz.func38, Tryz.ntmps38
  go_wp2
  go_loop [3, 4] (fun i o => ∃ (k : Nat) (y : Value), o = y ∧ k ≤ n ∧ i = .int .i64 (k : Int) ∧ Hid ((l.take k).all wordB = true)) (fun i _ => n - (intOf i).toNat)
  case atStart => exact ⟨0, _, rfl, Nat.zero_le _, rfl, Lib.hid rfl⟩
  case round =>
    obtain ⟨k, y, rfl, hk, rfl, HR⟩ := hrel
    by_cases hlt : k < n
    · have hk2 : (k : Int) < (n : Int) := by omega
      have hk0 : (0 : Int) ≤ (k : Int) := by omega
      have hks : k < s.size := by rw [HZ.out]; omega
      have hkl : k < l.length := by rw [HL.out]; omega
      have hget : s[k] = l[k] := by
        have h := HS.out
        subst h
        rfl
      have HST := Lib.hid (wb_snoc hkl)
      have HIT := Lib.hid (isWord_stop hkl)
      obtain ⟨c, hc⟩ : ∃ c, l[k] = c := ⟨_, rfl⟩
      rw [hc] at hget HST HIT
      obtain ⟨x, hx⟩ : ∃ x : Int, (c.toNat : Int) = x := ⟨_, rfl⟩
      have hgi : ((s[k]).toNat : Int) = x := by rw [hget]; exact hx
      have HX := Lib.hid hx
      have hx0 : 0 ≤ x := by omega
      have hx1 : x ≤ 255 := by have := c.toNat_lt; omega
      clear hc hkl hget hx
      have HHAS := rwhas_any c
      have HLET := rletter_any c
      rw [HX.out] at HHAS HLET
      have HW := Lib.hid (show wordB c = (letterB c || wordBytes.contains c) from rfl)
      obtain ⟨b1, hb1⟩ : ∃ b, letterB c = b := ⟨_, rfl⟩
      obtain ⟨b2, hb2⟩ : ∃ b, wordBytes.contains c = b := ⟨_, rfl⟩
      rw [hb1] at HLET HW
      rw [hb2] at HHAS HW
      have HA := Lib.hid HHAS
      have HE := Lib.hid HLET
      clear hb1 hb2 HHAS HLET
      cases b1
      · cases b2
        · have HV := Lib.hid (HIT.out HW.out)
          go_wp2_with fail
          refine (HA.out _).mono ?_
          rintro e w' ⟨rfl, rfl⟩
          go_wp2_with fail
          refine (HE.out _).mono ?_
          rintro e w' ⟨rfl, rfl⟩
          go_wp2
          go_ret
          exact ⟨by rw [HV.out]; rfl, rfl⟩
        · have HV := Lib.hid (show (l.take (k + 1)).all wordB = true by rw [HST.out, HR.out, HW.out]; rfl)
          go_wp2_with fail
          refine (HA.out _).mono ?_
          rintro e w' ⟨rfl, rfl⟩
          go_wp2_with fail
          refine (HE.out _).mono ?_
          rintro e w' ⟨rfl, rfl⟩
          go_wp2
          go_round
          case rel => exact ⟨k + 1, _, rfl, by omega, by go_num, HV⟩
          case measure => simp [intOf] <;> omega
      · have HV := Lib.hid (show (l.take (k + 1)).all wordB = true by rw [HST.out, HR.out, HW.out]; rfl)
        go_wp2_with fail
        refine (HA.out _).mono ?_
        rintro e w' ⟨rfl, rfl⟩
        go_wp2_with fail
        refine (HE.out _).mono ?_
        rintro e w' ⟨rfl, rfl⟩
        go_wp2
        go_round
        case rel => exact ⟨k + 1, _, rfl, by omega, by go_num, HV⟩
        case measure => simp [intOf] <;> omega
    · obtain rfl : k = n := by omega
      have HV := Lib.hid (show isWord l = decide (0 < (k : Int)) by
        rw [HEM.out]
        have := HR.out
        rw [List.take_of_length_le (by rw [HL.out]; exact Nat.le_refl _)] at this
        rw [this]
        rfl)
      go_wp2
      go_ret
      exact ⟨by rw [HV.out]; simp, rfl⟩
end Go.Proofs.YtnpgnohlcphfnaaGreatDoor
end
