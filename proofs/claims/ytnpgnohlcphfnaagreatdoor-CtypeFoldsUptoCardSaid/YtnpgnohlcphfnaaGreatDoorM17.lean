/- The laws' example: small. The law's helper few. The package variables as the rows lay them, a world that meets the condition, and a content type that came in. -/
import Derived.Test.YtnpgnohlcphfnaaGreatDoorRows
import Derived.Test.YtnpgnohlcphfnaaGreatDoorChecked
import Derived.Test.YtnpgnohlcphfnaaGreatDoorShelf
import Derived.ProofKit
import Derived.LaidMore
import Derived.OpenShut
import Derived.Lay
import Derived.PinnedBridge
import Derived.Lib.LaidU8
import Derived.Stop.LaidErr
import Derived.Deep.Slices
import Derived.Deep.DeepHandedRow
import Derived.ChangeMaps5
import Derived.Test.YtnpgnohlcphfnaaGreatDoorM15
import Derived.Test.YtnpgnohlcphfnaaGreatDoorM16
import Derived.Test.YtnpgnohlcphfnaaGreatDoorM06
import Derived.Test.YtnpgnohlcphfnaaGreatDoorM13
section
namespace Go.Proofs.YtnpgnohlcphfnaaGreatDoor
open Go.RowKit
set_option linter.unusedVariables false

def exS : List UInt8 := [84, 101, 120, 116, 47, 72, 84, 77, 76, 32, 40, 99, 41, 59, 32, 67, 104, 97, 114, 115, 101, 116, 61, 34, 120, 32, 121, 34, 59, 32, 97, 42, 48, 42, 61, 117, 116, 102, 45, 56, 39, 39, 37, 101, 50, 37, 56, 50, 59, 32, 97, 42, 49, 42, 61, 37, 97, 99, 59, 32, 98]
def exP : List (List UInt8 × List UInt8) := [([99, 104, 97, 114, 115, 101, 116], [120, 32, 121]), ([97], [226, 130, 172])]
def exK : List UInt8 := [116, 101, 120, 116]
def exH : List UInt8 := [104, 116, 109, 108]
def exD : List UInt8 := [65, 116, 116, 97, 99, 104, 109, 101, 110, 116, 59, 32, 102, 105, 108, 101, 110, 97, 109, 101, 61, 97, 46, 98]
def exA : List UInt8 := [97, 116, 116, 97, 99, 104, 109, 101, 110, 116]
def exF : List (List UInt8 × List UInt8) := [([102, 105, 108, 101, 110, 97, 109, 101], [97, 46, 98])]
def exL : List UInt8 := [116, 101, 120, 116, 47, 104, 116, 109, 108, 59, 32, 99, 104, 97, 114, 115, 101, 116, 61, 34, 120, 32, 121, 34, 59, 32, 97, 42, 61, 117, 116, 102, 45, 56, 39, 39, 37, 69, 50, 37, 56, 50, 37, 65, 67]
theorem ex_parse : parseT exS = (⟨exK, exH, exP⟩, true) := by kernel_rfl
theorem ex_plain : parseT exK = (⟨[116, 101, 120, 116], [112, 108, 97, 105, 110], []⟩, false) := by kernel_rfl
theorem ex_disp : dispT exD = (exA, exF) := by kernel_rfl
theorem ex_param : paramT exP [67, 72, 65, 82, 83, 69, 84] = some [120, 32, 121] := by kernel_rfl
theorem ex_line : lineP (exK ++ [47] ++ exH) exP = exL := by kernel_rfl
theorem own_two {w : World} {B : Nat} {v : Value} {a b c d : List UInt8} (h : OwnPars w B v [(a, b), (c, d)]) : ∃ g cp, v = .slice (some ⟨g, 0, none⟩) 2 cp ∧ g < w.heap.size ∧ w.cell? ⟨g, 0, none⟩ = some (.string (ba a)) ∧ w.cell? ⟨g, 1, none⟩ = some (.string (ba b)) ∧ w.cell? ⟨g, 2, none⟩ = some (.string (ba c)) ∧ w.cell? ⟨g, 3, none⟩ = some (.string (ba d)) ∧ Pars w w.heap.size (some ⟨g, 0, none⟩) 2 [(a, b), (c, d)] := by
  obtain ⟨A, c2, hv, _, _, hp⟩ := h.reads
  have h0 := h.row
  rcases h0.2 with ⟨_, hn⟩ | ⟨g, cap, cur, e, hb, hg, _⟩
  · exact absurd hn (by simp)
  · subst e
    have e2 : A = some ⟨g, 0, none⟩ := by injection hv with e1; exact e1.symm
    subst e2
    have k0 := h0.cells (g := g) rfl 0 _ rfl
    have k1 := h0.cells (g := g) rfl 1 _ rfl
    have k2 := h0.cells (g := g) rfl 2 _ rfl
    have k3 := h0.cells (g := g) rfl 3 _ rfl
    rw [add_base] at k0 k1 k2 k3
    exact ⟨g, cap, rfl, heap_lt hg, k0, k1, k2, k3, hp⟩
theorem own_one {w : World} {B : Nat} {v : Value} {a b : List UInt8} (h : OwnPars w B v [(a, b)]) : ∃ g cp, v = .slice (some ⟨g, 0, none⟩) 1 cp ∧ g < w.heap.size ∧ w.cell? ⟨g, 0, none⟩ = some (.string (ba a)) ∧ w.cell? ⟨g, 1, none⟩ = some (.string (ba b)) := by
  have h0 := h.row
  rcases h0.2 with ⟨_, hn⟩ | ⟨g, cap, cur, e, hb, hg, _⟩
  · exact absurd hn (by simp)
  · subst e
    have k0 := h0.cells (g := g) rfl 0 _ rfl
    have k1 := h0.cells (g := g) rfl 1 _ rfl
    rw [add_base] at k0 k1
    exact ⟨g, cap, rfl, heap_lt hg, k0, k1⟩
def LTrue (w : World) (e : Ending) (w' : World) : Prop := e = .returned (.bool true) ∧ Below w.heap.size w w'
set_option maxRecDepth 100000 in
set_option maxHeartbeats 2000000 in
theorem lsmall_any (w : World) (hT : Tabs w) : Calls Tryz.prog 8 #[] w (LTrue w) := by
  have HT := Lib.hid hT
  have HP1 := Lib.hid (show ∀ W, Tabs W → Calls Tryz.prog 10 #[.string ⟨#[84, 101, 120, 116, 47, 72, 84, 77, 76, 32, 40, 99, 41, 59, 32, 67, 104, 97, 114, 115, 101, 116, 61, 34, 120, 32, 121, 34, 59, 32, 97, 42, 48, 42, 61, 117, 116, 102, 45, 56, 39, 39, 37, 101, 50, 37, 56, 50, 59, 32, 97, 42, 49, 42, 61, 37, 97, 99, 59, 32, 98]⟩] W (TypPost W (⟨exK, exH, exP⟩, true)) from fun W hT => by rw [← ex_parse]; exact parse_any exS W (by decide) hT)
  have HP2 := Lib.hid (show ∀ W, Tabs W → Calls Tryz.prog 10 #[.string ⟨#[116, 101, 120, 116]⟩] W (TypPost W (⟨[116, 101, 120, 116], [112, 108, 97, 105, 110], []⟩, false)) from fun W hT => by rw [← ex_plain]; exact parse_any exK W (by decide) hT)
  have HDI := Lib.hid (show ∀ W, Tabs W → Calls Tryz.prog 12 #[.string ⟨#[65, 116, 116, 97, 99, 104, 109, 101, 110, 116, 59, 32, 102, 105, 108, 101, 110, 97, 109, 101, 61, 97, 46, 98]⟩] W (DispPost W (exA, exF)) from fun W hT => by rw [← ex_disp]; exact disp_any exD W (by decide) hT)
  have HPA := Lib.hid (show ∀ W g cp, Pars W W.heap.size (some ⟨g, 0, none⟩) 2 exP → Calls Tryz.prog 14 #[.slice (some ⟨g, 0, none⟩) 2 cp, .string ⟨#[67, 72, 65, 82, 83, 69, 84]⟩] W (ParPost W (some [120, 32, 121])) from fun W g cp hp => by
    rw [← ex_param]
    exact param_any exP [67, 72, 65, 82, 83, 69, 84] (some ⟨g, 0, none⟩) 2 cp W hp (by decide) (by decide) (by decide))
  have HWR := Lib.hid (show ∀ W g cp, Pars W W.heap.size (some ⟨g, 0, none⟩) 2 exP → Calls Tryz.prog 18 #[.agg #[.string (ba exK), .string (ba exH), .slice (some ⟨g, 0, none⟩) 2 cp]] W (StrB W exL) from fun W g cp hp => by
    have h := write_any exK exH exP (some ⟨g, 0, none⟩) 2 cp W hp (by decide) (by decide) (by rw [ex_line]; decide)
    rw [ex_line] at h
    exact h)
  unfold StrB at HWR
  unfold ParPost at HPA
  have n1 : (ba exK).toList = [116, 101, 120, 116] := ba_toList _
  have n2 : (ba exH).toList = [104, 116, 109, 108] := ba_toList _
  have n3 : (ba exL).toList = [116, 101, 120, 116, 47, 104, 116, 109, 108, 59, 32, 99, 104, 97, 114, 115, 101, 116, 61, 34, 120, 32, 121, 34, 59, 32, 97, 42, 61, 117, 116, 102, 45, 56, 39, 39, 37, 69, 50, 37, 56, 50, 37, 65, 67] := ba_toList _
  have n4 : (ba exA).toList = [97, 116, 116, 97, 99, 104, 109, 101, 110, 116] := ba_toList _
  have n5 : (ba [116, 101, 120, 116]).toList = [116, 101, 120, 116] := ba_toList _
  have n6 : (ba [112, 108, 97, 105, 110]).toList = [112, 108, 97, 105, 110] := ba_toList _
  have n7 : (ba [120, 32, 121]).toList = [120, 32, 121] := ba_toList _
  have n8 : (ba [97]).toList = [97] := ba_toList _
  have n9 : (ba [226, 130, 172]).toList = [226, 130, 172] := ba_toList _
  have m1 : (ba [102, 105, 108, 101, 110, 97, 109, 101]).toList = [102, 105, 108, 101, 110, 97, 109, 101] := ba_toList _
  have m2 : (ba [97, 46, 98]).toList = [97, 46, 98] := ba_toList _
  clear hT
  go_enter Tryz.func8, Tryz.ntmps8
  go_wp2_with fail
  refine (HP1.out _ HT.out).mono ?_
  rintro e w1 ⟨v1, rfl, hown1, hb1⟩
  obtain ⟨g, cp, rfl, hg, p0, p1, p2, p3, hpar⟩ := own_two hown1
  have HT1 := Lib.hid ((HT.out.below hb1).below ((Below.refl w1.heap.size w1).alloc (Nat.le_refl _) (.cells #[.string (ba exK), .string (ba exH), .slice (some ⟨g, 0, none⟩) 2 cp] 26)))
  have HB1 := Lib.hid (hb1.alloc hb1.size (.cells #[.string (ba exK), .string (ba exH), .slice (some ⟨g, 0, none⟩) 2 cp] 26))
  have HPR := Lib.hid hpar
  have HC := Lib.hid (And.intro p0 (And.intro p1 (And.intro p2 p3)))
  clear hown1 hb1 hpar p0 p1 p2 p3
  go_wp2_with fail
  refine (HP2.out _ HT1.out).mono ?_
  rintro e w2 ⟨v2, rfl, hown2, hb2⟩
  obtain ⟨A2, c2, rfl, -, -, -⟩ := hown2.reads
  have hz2 : w1.heap.size < w2.heap.size := by have := hb2.size; simp at this; omega
  have HB2 := Lib.hid (HB1.out.trans (hb2.mono HB1.out.size))
  have a0 : w2.cell? ⟨w1.heap.size, 0, none⟩ = some (.string (ba exK)) := (hb2.cell (p := ⟨w1.heap.size, 0, none⟩) (by simp)).trans (by go_simp)
  have a1 : w2.cell? ⟨w1.heap.size, 1, none⟩ = some (.string (ba exH)) := (hb2.cell (p := ⟨w1.heap.size, 1, none⟩) (by simp)).trans (by go_simp)
  have a2 : w2.cell? ⟨w1.heap.size, 2, none⟩ = some (.slice (some ⟨g, 0, none⟩) 2 cp) := (hb2.cell (p := ⟨w1.heap.size, 2, none⟩) (by simp)).trans (by go_simp)
  have HPR2 := Lib.hid (show Pars w2 w1.heap.size (some ⟨g, 0, none⟩) 2 exP from (HPR.out.below ((Below.refl w1.heap.size w1).alloc (Nat.le_refl _) _)).below (hb2.mono (by simp)))
  have HT2 := Lib.hid ((HT1.out.below hb2).below ((Below.refl w2.heap.size w2).alloc (Nat.le_refl _) (.cells #[.string (ba [116, 101, 120, 116]), .string (ba [112, 108, 97, 105, 110]), .slice A2 0 c2] 26)))
  have HB2a := Lib.hid (HB2.out.alloc HB2.out.size (.cells #[.string (ba [116, 101, 120, 116]), .string (ba [112, 108, 97, 105, 110]), .slice A2 0 c2] 26))
  clear hown2 hb2
  go_wp2_with fail
  refine (HDI.out _ HT2.out).mono ?_
  rintro e w3 ⟨v3, rfl, hown3, hb3⟩
  obtain ⟨g3, cp3, rfl, hg3, d0, d1⟩ := own_one hown3
  have hz3 : w2.heap.size < w3.heap.size := by have := hb3.size; simp at this; omega
  have b0 : w3.cell? ⟨w1.heap.size, 0, none⟩ = some (.string (ba exK)) := (hb3.cell (p := ⟨w1.heap.size, 0, none⟩) (by simp; omega)).trans (by go_simp)
  have b1 : w3.cell? ⟨w1.heap.size, 1, none⟩ = some (.string (ba exH)) := (hb3.cell (p := ⟨w1.heap.size, 1, none⟩) (by simp; omega)).trans (by go_simp)
  have b2 : w3.cell? ⟨w1.heap.size, 2, none⟩ = some (.slice (some ⟨g, 0, none⟩) 2 cp) := (hb3.cell (p := ⟨w1.heap.size, 2, none⟩) (by simp; omega)).trans (by go_simp)
  have u0 : w3.cell? ⟨w2.heap.size, 0, none⟩ = some (.string (ba [116, 101, 120, 116])) := (hb3.cell (p := ⟨w2.heap.size, 0, none⟩) (by simp)).trans (by go_simp)
  have u1 : w3.cell? ⟨w2.heap.size, 1, none⟩ = some (.string (ba [112, 108, 97, 105, 110])) := (hb3.cell (p := ⟨w2.heap.size, 1, none⟩) (by simp)).trans (by go_simp)
  have HB3 := Lib.hid (HB2a.out.trans (hb3.mono HB2a.out.size))
  have HPR3 := Lib.hid (show Pars w3 w1.heap.size (some ⟨g, 0, none⟩) 2 exP from (HPR2.out.below ((Below.refl w1.heap.size w2).alloc (by omega) _)).below (hb3.mono (by simp; omega)))
  have HCD := Lib.hid (And.intro d0 d1)
  clear hown3 hb3 a0 a1 a2 d0 d1
  go_wp2_with fail
  refine (HPA.out _ g cp (HPR3.out.more (by omega))).mono ?_
  rintro e w4 ⟨rfl, hb4⟩
  have hz4 := hb4.size
  have t0 : w4.cell? ⟨w1.heap.size, 0, none⟩ = some (.string (ba exK)) := (hb4.cell (p := ⟨w1.heap.size, 0, none⟩) (by show w1.heap.size < _; omega)).trans b0
  have t1 : w4.cell? ⟨w1.heap.size, 1, none⟩ = some (.string (ba exH)) := (hb4.cell (p := ⟨w1.heap.size, 1, none⟩) (by show w1.heap.size < _; omega)).trans b1
  have t2 : w4.cell? ⟨w1.heap.size, 2, none⟩ = some (.slice (some ⟨g, 0, none⟩) 2 cp) := (hb4.cell (p := ⟨w1.heap.size, 2, none⟩) (by show w1.heap.size < _; omega)).trans b2
  have x0 : w4.cell? ⟨w2.heap.size, 0, none⟩ = some (.string (ba [116, 101, 120, 116])) := (hb4.cell (p := ⟨w2.heap.size, 0, none⟩) (by show w2.heap.size < _; omega)).trans u0
  have x1 : w4.cell? ⟨w2.heap.size, 1, none⟩ = some (.string (ba [112, 108, 97, 105, 110])) := (hb4.cell (p := ⟨w2.heap.size, 1, none⟩) (by show w2.heap.size < _; omega)).trans u1
  have y0 : w4.cell? ⟨g3, 0, none⟩ = some (.string (ba [102, 105, 108, 101, 110, 97, 109, 101])) := (hb4.cell (p := ⟨g3, 0, none⟩) hg3).trans HCD.out.1
  have y1 : w4.cell? ⟨g3, 1, none⟩ = some (.string (ba [97, 46, 98])) := (hb4.cell (p := ⟨g3, 1, none⟩) hg3).trans HCD.out.2
  have HPR4 := Lib.hid (show Pars w4 w1.heap.size (some ⟨g, 0, none⟩) 2 exP from HPR3.out.below (hb4.mono (by omega)))
  have z2 : w4.cell? ⟨g, 2, none⟩ = some (.string (ba [97])) := by
    obtain ⟨ad, e, _, q0, q1, _⟩ := HPR4.out.2 1 (by decide)
    injection e with e
    subst e
    rw [add_base] at q0
    exact q0
  have z3 : w4.cell? ⟨g, 3, none⟩ = some (.string (ba [226, 130, 172])) := by
    obtain ⟨ad, e, _, q0, q1, _⟩ := HPR4.out.2 1 (by decide)
    injection e with e
    subst e
    rw [add_base] at q1
    exact q1
  have HB4 := Lib.hid (HB3.out.trans (hb4.mono HB3.out.size))
  clear b0 b1 b2 u0 u1 hb4
  go_wp2_with fail
  refine (HWR.out _ g cp (HPR4.out.more (by omega))).mono ?_
  rintro e w5 ⟨rfl, hb5⟩
  have HB5 := Lib.hid (HB4.out.trans (hb5.mono HB4.out.size))
  clear hb5
  go_wp2
  go_ret
  exact ⟨rfl, HB5.out⟩
end Go.Proofs.YtnpgnohlcphfnaaGreatDoor
end
section
namespace Go.Proofs.YtnpgnohlcphfnaaGreatDoor
open Go.RowKit
set_option linter.unusedVariables false

theorem few_any (l : List UInt8) (w : World) : Calls Tryz.prog 9 #[.string (ba l)] w fun e w' => e = .returned (.bool (decide (l.length ≤ 2000))) ∧ w' = w := by
  obtain ⟨n, hn⟩ : ∃ n, l.length = n := ⟨_, rfl⟩
  have hz : ((ba l).size : Int) = n := by rw [ba_size, hn]
  have HD := Lib.hid (show decide (n ≤ 2000) = decide ((n : Int) ≤ 2000) by rw [decide_eq_decide]; omega)
  rw [hn]
  obtain ⟨s, hs⟩ : ∃ s, ba l = s := ⟨_, rfl⟩
  rw [hs] at hz ⊢
  clear hn hs
  go_enter Tryz.func9, Tryz.ntmps9
  go_wp2
  go_ret
  exact ⟨by rw [HD.out]; rfl, rfl⟩
end Go.Proofs.YtnpgnohlcphfnaaGreatDoor
end
section
namespace Go.Proofs.YtnpgnohlcphfnaaGreatDoor
open Go.ChangeMaps
open Go Go.ChangeShapes Go.WideShapes Go.ChangeAt Go.RowKit Go.Deep Go.Lib
set_option linter.unusedVariables false

theorem own_ : ownKnob Tryz.prog.godebug = none := by kernel_rfl
/-- The list that all rows of the seat bear. -/
def laid12 : List (String × DataW Unit) := Rows.ctypeTellsRow.laid
theorem laid12_plain (w : World) : laidMetH Tryz.prog laid12 w = laidMet Tryz.prog laid12 w := MakeChecks.laidMetH_plain _ _ _ (by kernel_rfl)
theorem u8x : Go.Proofs.U8Extra Tryz.prog Tryz.lays260_ren := ⟨by kernel_rfl, by kernel_rfl, by kernel_rfl, by kernel_rfl, by kernel_rfl, by kernel_rfl, by kernel_rfl⟩
theorem acc_eq : (Rows.laid_unicode_utf8_acceptRanges : DataW Unit) = acceptData := by kernel_rfl
theorem mem_first : ("unicode/utf8.first", firstData) ∈ laid12 := by
  rw [← Pinned.utf8First_eq]
  exact List.mem_of_getElem? (i := 7) (by kernel_rfl)
theorem mem_acc : ("unicode/utf8.acceptRanges", acceptData) ∈ laid12 := by
  rw [← acc_eq]
  exact List.mem_of_getElem? (i := 3) (by kernel_rfl)
theorem gER : Tryz.prog.globalNamed "strconv.ErrRange" = some 6 := by kernel_rfl
theorem gERType : (Tryz.prog.globals[(6 : Nat)]?).map (·.type) = some 75 := by kernel_rfl
theorem cells_es : Tryz.prog.cellsOf 263 = 1 := by kernel_rfl
theorem cells_st : Tryz.prog.cellsOf 9 = 1 := by kernel_rfl
theorem star_es : "*" ++ "errors.errorString" = "*errors.errorString" := by decide
theorem row_es (u : TypeId) (h : Tryz.prog.typeName? 3 u = some "*errors.errorString") : u = 261 :=
  typeName_ptr_named (nm := "errors.errorString") (by rw [star_es]; kernel_rfl) (by kernel_rfl) (by decide) u (by rw [star_es]; exact h)
theorem tabs_of {W : World} (hL : laidMetH Tryz.prog laid12 W) (hS : W.ShapedOpen Tryz.prog) : Tabs W := by
  rw [laid12_plain] at hL
  have hu : Lib.Utf8Tabs 0 1 W := utf8Tabs_of_reads Tryz.lays260 u8x (laidMet.reads hL mem_first) (laidMet.reads hL mem_acc)
  have hm : ∃ m, W.cell? ⟨2, 0, none⟩ = some (.int .i64 m) := Go.Proofs.cell_of_shapedOpen_int (zero := #[.int .i64 0]) (t := 3) hS (of_decide_eq_true (by kernel_rfl)) (by kernel_rfl) rfl (by kernel_rfl) (by kernel_rfl) Tryz.underlying3
  have hE := hL.tail.tail.tail.tail
  obtain ⟨a1, s1, hv1, -, -, -⟩ := laid_sentinel hE gER gERType Tryz.underlying75 row_es Tryz.underlying261 Tryz.underlying263 rfl rfl Tryz.underlying9 cells_es cells_st
  have h0 : W.cell? ⟨6, 0, none⟩ = some (.iface 261 (.pointer (some a1))) := by have h0 := World.var?_cell gER hv1 0; simpa using h0
  obtain ⟨m, hm2⟩ := hm
  refine ⟨hu, ⟨_, h0, .inr ⟨_, _, rfl⟩⟩, ⟨m, hm2⟩, ?_, ?_, ?_, ?_⟩
  · exact World.block_lt_of_cell? W _ (hu.1 0 (by decide))
  · exact World.block_lt_of_cell? W _ (hu.2 0 (by decide)).1
  · exact World.block_lt_of_cell? W _ hm2
  · exact World.block_lt_of_cell? W _ h0
theorem cells_par : Tryz.prog.cellsOf 37 = 2 := by kernel_rfl
theorem cells_pars : Tryz.prog.cellsOf 24 = 1 := by kernel_rfl
theorem cells_typ : Tryz.prog.cellsOf 26 = 3 := by kernel_rfl
section
variable {H : Type} {enc : TypeId × Value → H} {w : World}
/-- What is reached through a datum takes no more than a machine has. -/
def Fits {H : Type} (t : TypeId) (d : DataW H) : Prop := ∀ n ∈ d.weights Tryz.prog t, n ≤ reachBytes
theorem fits_all {e : TypeId} {d : DataW H} : ∀ {l : List (DataW H)}, d ∈ l → ∀ n ∈ d.weights Tryz.prog e, n ∈ DataW.weightsAll Tryz.prog e l
  | [], h, _, _ => by cases h
  | x :: r, h, n, hn => by
    unfold DataW.weightsAll
    rw [List.mem_append]
    rcases List.mem_cons.1 h with rfl | h
    · exact .inl hn
    · exact .inr (fits_all h n hn)
theorem fits_string {t : TypeId} {l : List UInt8} (h : Fits (H := H) t (.lit (.string l))) : l.length ≤ 140737488351232 := h _ (by simp [DataW.weights])
theorem fits_par {d e : DataW H} (h : Fits 37 (.agg [d, e])) : Fits 9 d ∧ Fits 9 e := by
  have h2 : ∀ n ∈ DataW.weightsEach Tryz.prog [9, 9] [d, e], n ≤ reachBytes := fun n hn => h n (by
    unfold DataW.weights
    rw [Tryz.underlying37]
    exact hn)
  exact ⟨fun n hn => h2 n (DataW.weights_mem_each (j := 0) rfl rfl n hn), fun n hn => h2 n (DataW.weights_mem_each (j := 1) rfl rfl n hn)⟩
theorem fits_typ {d e f : DataW H} (h : Fits 26 (.agg [d, e, f])) : Fits 9 d ∧ Fits 9 e ∧ Fits 24 f := by
  have h2 : ∀ n ∈ DataW.weightsEach Tryz.prog [9, 9, 24] [d, e, f], n ≤ reachBytes := fun n hn => h n (by
    unfold DataW.weights
    rw [Tryz.underlying26]
    exact hn)
  exact ⟨fun n hn => h2 n (DataW.weights_mem_each (j := 0) rfl rfl n hn), fun n hn => h2 n (DataW.weights_mem_each (j := 1) rfl rfl n hn), fun n hn => h2 n (DataW.weights_mem_each (j := 2) rfl rfl n hn)⟩
theorem fits_row {l r : List (DataW H)} (h : Fits 24 (.slice l r)) {d : DataW H} (hd : d ∈ l) : Fits 37 d := fun n hn => h n (by
  unfold DataW.weights
  rw [Tryz.underlying24]
  exact List.mem_cons_of_mem _ (List.mem_append_left _ (fits_all hd n hn)))
def ParAt (w : World) (a : Addr) (i : Nat) (t : List UInt8 × List UInt8) : Prop := w.cell? (a.add (i * 2)) = some (.string (ba t.1)) ∧ w.cell? ⟨(a.add (i * 2)).block, (a.add (i * 2)).off + 1, none⟩ = some (.string (ba t.2))
/-- A parameter's datum. -/
def parD {H : Type} (t : List UInt8 × List UInt8) : DataW H := .agg [.lit (.string t.1), .lit (.string t.2)]
set_option maxRecDepth 100000 in
theorem par_in {fuel i : Nat} {a : Addr} {cs : List Value} {x : DataW H × List MemPlace} (hc : w.cells? 0 (a.add (i * 2)) 2 = some cs) (h : DataW.trod enc Tryz.prog w 0 (fun _ => true) true fuel 37 cs = some x) : ∃ e, ParAt w a i e ∧ x.1 = parD e := by
  obtain ⟨xs, n, _, hx, _, hxl, hf⟩ := DataW.trod_struct Tryz.underlying37 h
  obtain ⟨_, hcl, hat⟩ := World.cells?_some hc
  match cs, hcl with
  | [c0, c1], _ =>
    have hx1 : DataW.trod enc Tryz.prog w 0 (fun _ => true) true n 9 (([c0, c1].drop 0).take (Tryz.prog.cellsOf 9)) = xs[0]? := hf 0 _ rfl
    have hx2 : DataW.trod enc Tryz.prog w 0 (fun _ => true) true n 9 (([c0, c1].drop 1).take (Tryz.prog.cellsOf 9)) = xs[1]? := hf 1 _ rfl
    rw [cells_st] at hx1 hx2
    replace hx1 : DataW.trod enc Tryz.prog w 0 (fun _ => true) true n 9 [c0] = xs[0]? := hx1
    replace hx2 : DataW.trod enc Tryz.prog w 0 (fun _ => true) true n 9 [c1] = xs[1]? := hx2
    match xs, hxl with
    | [y1, y2], _ =>
      obtain ⟨s1, e1, f1, _⟩ := DataW.trod_string Tryz.underlying9 (show DataW.trod enc Tryz.prog w 0 (fun _ => true) true n 9 [c0] = some y1 from hx1)
      obtain ⟨s2, e2, f2, _⟩ := DataW.trod_string Tryz.underlying9 (show DataW.trod enc Tryz.prog w 0 (fun _ => true) true n 9 [c1] = some y2 from hx2)
      injection e1 with e1 _
      injection e2 with e2 _
      subst e1; subst e2; subst f1; subst f2
      exact ⟨⟨s1.data.toList, s2.data.toList⟩, ⟨hat 0 (by omega), hat 1 (by omega)⟩, by rw [hx]; rfl⟩
theorem pars_in {fuel : Nat} {cs : List Value} {x : DataW H × List MemPlace} (h : DataW.trod enc Tryz.prog w 0 (fun _ => true) true fuel 24 cs = some x) : ∃ A n c ts, cs = [.slice A n c] ∧ n ≤ c ∧ c ≤ maxLen ∧ Pars w w.heap.size A n ts ∧ (ts = [] ∧ x.1 = .nil ∨ ∃ r, x.1 = .slice (ts.map parD) r) := by
  rcases open_slice Tryz.underlying24 h with ⟨h0, hx⟩ | ⟨a, len, cap, m, n, D, Pl, hcs, _, hl, hm, hmm, hx, hi⟩
  · exact ⟨none, 0, 0, [], h0, Nat.le_refl _, by simp, Pars.nil_, .inl ⟨rfl, by rw [hx]⟩⟩
  · have hmc : m = cap := by simpa using hmm
    subst hmc
    have he : ∀ i, ∃ e, i < len → ParAt w a i e ∧ D i = parD e := fun i => by
      by_cases hil : i < len
      · obtain ⟨cs', hc, ht⟩ := hi i (by omega)
        rw [cells_par] at hc
        obtain ⟨s, hs⟩ := par_in hc ht
        exact ⟨s, fun _ => hs⟩
      · exact ⟨⟨[], []⟩, fun h => absurd h hil⟩
    obtain ⟨E, hE⟩ : ∃ E : Nat → List UInt8 × List UInt8, ∀ i, i < len → ParAt w a i (E i) ∧ D i = parD (E i) := ⟨fun i => Classical.choose (he i), fun i => Classical.choose_spec (he i)⟩
    refine ⟨some a, len, m, (List.range len).map E, hcs, hl, hm, ⟨by simp, fun k hk => ?_⟩, .inr ⟨(List.range (m - len)).map fun j => D (len + j), ?_⟩⟩
    · have hk2 : k < len := by simpa using hk
      obtain ⟨⟨h1, h2⟩, _⟩ := hE k hk2
      have e : ((List.range len).map E)[k] = E k := by simp
      rw [e]
      exact ⟨a, rfl, World.block_lt_of_cell? w _ h1, h1, h2, trivial⟩
    · rw [hx, List.map_map]
      show DataW.slice ((List.range len).map D) _ = _
      congr 1
      apply List.map_congr_left
      intro i hi
      exact (hE i (List.mem_range.1 hi)).2
set_option maxRecDepth 100000 in
theorem typ_in {fuel base : Nat} {v : Value} {x : DataW H × List MemPlace} (hv : Value.okWide Tryz.prog w .any base 26 v) (h : DataW.trod enc Tryz.prog w 0 (fun _ => true) true fuel 26 v.cells.toList = some x) :
    ∃ k s A n c ts d, v = .agg #[.string (ba k), .string (ba s), .slice A n c] ∧ n ≤ c ∧ c ≤ maxLen ∧ Pars w w.heap.size A n ts ∧ x.1 = .agg [.lit (.string k), .lit (.string s), d] ∧ (ts = [] ∧ d = .nil ∨ ∃ r, d = .slice (ts.map parD) r) := by
  obtain ⟨cs, rfl, hsz⟩ := okWide_struct Tryz.underlying26 hv
  rw [cells_typ] at hsz
  obtain ⟨l⟩ := cs
  match l, hsz with
  | [c0, c1, c2], _ =>
  obtain ⟨xs, n, _, hx, _, hxl, hf⟩ := DataW.trod_struct Tryz.underlying26 h
  have hx0 : DataW.trod enc Tryz.prog w 0 (fun _ => true) true n 9 (([c0, c1, c2].drop 0).take (Tryz.prog.cellsOf 9)) = xs[0]? := hf 0 _ rfl
  have hx1 : DataW.trod enc Tryz.prog w 0 (fun _ => true) true n 9 (([c0, c1, c2].drop 1).take (Tryz.prog.cellsOf 9)) = xs[1]? := hf 1 _ rfl
  have hx2 : DataW.trod enc Tryz.prog w 0 (fun _ => true) true n 24 (([c0, c1, c2].drop 2).take (Tryz.prog.cellsOf 24)) = xs[2]? := hf 2 _ rfl
  rw [cells_st] at hx0 hx1
  rw [cells_pars] at hx2
  match xs, hxl with
  | [y0, y1, y2], _ =>
  obtain ⟨s1, e1, f1, _⟩ := DataW.trod_string Tryz.underlying9 (show DataW.trod enc Tryz.prog w 0 (fun _ => true) true n 9 [c0] = some y0 from hx0)
  obtain ⟨s2, e2, f2, _⟩ := DataW.trod_string Tryz.underlying9 (show DataW.trod enc Tryz.prog w 0 (fun _ => true) true n 9 [c1] = some y1 from hx1)
  obtain ⟨A, m, c, ts, e3, h1, h2, h3, h4⟩ := pars_in (show DataW.trod enc Tryz.prog w 0 (fun _ => true) true n 24 [c2] = some y2 from hx2)
  injection e1 with e1 _
  injection e2 with e2 _
  injection e3 with e3 _
  subst e1; subst e2; subst e3; subst f1; subst f2
  exact ⟨s1.data.toList, s2.data.toList, A, m, c, ts, y2.1, rfl, h1, h2, h3, by rw [hx]; rfl, h4⟩
/-- The lengths of a type's strings that a machine has room for. -/
theorem typ_small {k s : List UInt8} {ts : List (List UInt8 × List UInt8)} {d : DataW H} (hd : ts = [] ∧ d = .nil ∨ ∃ r, d = .slice (ts.map parD) r) (h : Fits 26 (.agg [.lit (.string k), .lit (.string s), d])) :
    k.length ≤ 140737488351232 ∧ s.length ≤ 140737488351232 ∧ ∀ t ∈ ts, t.1.length ≤ 140737488351232 ∧ t.2.length ≤ 140737488351232 := by
  obtain ⟨h1, h2, h3⟩ := fits_typ h
  refine ⟨fits_string h1, fits_string h2, fun t ht => ?_⟩
  rcases hd with ⟨rfl, _⟩ | ⟨r, rfl⟩
  · cases ht
  · have h4 := fits_row h3 (List.mem_map.2 ⟨t, ht, rfl⟩)
    obtain ⟨h5, h6⟩ := fits_par h4
    exact ⟨fits_string h5, fits_string h6⟩
end
/-- A world for the witness. -/
noncomputable def world12 (os : Os) : World := World.laidAll Tryz.prog os laid12
theorem met12 (os : Os) (args : Array Value) : laidMetH Tryz.prog laid12 ((world12 os).forCall (fun _ _ => 0) ⟨#[], args, []⟩).memory := by
  rw [laid12_plain]
  exact laidMet_laidAll _ (by kernel_rfl) (by kernel_rfl)
end Go.Proofs.YtnpgnohlcphfnaaGreatDoor
end
