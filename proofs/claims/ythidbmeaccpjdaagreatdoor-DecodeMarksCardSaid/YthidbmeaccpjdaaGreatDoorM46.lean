/- The example of the laws 15 (printed by gen_small15. -/
import Derived.Test.YthidbmeaccpjdaaGreatDoorM45
import Derived.Test.YthidbmeaccpjdaaGreatDoorM42
namespace Go.Proofs.YthidbmeaccpjdaaGreatDoor
open Go.RowKit
set_option linter.unusedVariables false
set_option maxHeartbeats 4000000
def exS : List UInt8 := [67, 111, 110, 116, 101, 110, 116, 45, 84, 121, 112, 101, 58, 32, 116, 101, 120, 116, 47, 104, 116, 109, 108, 59, 32, 99, 104, 97, 114, 115, 101, 116, 61, 108, 97, 116, 105, 110, 49, 59, 32, 110, 97, 109, 101, 61, 110, 13, 10, 67, 111, 110, 116, 101, 110, 116, 45, 84, 114, 97, 110, 115, 102, 101, 114, 45, 69, 110, 99, 111, 100, 105, 110, 103, 58, 32, 66, 97, 115, 101, 54, 52, 13, 10, 67, 111, 110, 116, 101, 110, 116, 45, 68, 105, 115, 112, 111, 115, 105, 116, 105, 111, 110, 58, 32, 105, 110, 108, 105, 110, 101, 59, 32, 102, 105, 108, 101, 110, 97, 109, 101, 61, 102, 46, 120, 13, 10, 13, 10, 80, 71, 73, 43, 54, 84, 119, 118, 13, 10, 89, 106, 52, 56, 89, 110, 73, 43, 74, 109, 120, 48, 79, 119, 61, 61]
def exP : Prt := ⟨-1, 0, 0, 129, 155, ⟨wText, wHtml, [(wCharset, [108, 97, 116, 105, 110, 49]), (wName, [110])]⟩, wB64⟩
def exT : List UInt8 := [97, 60, 98, 114, 62, 98, 32, 38, 108, 116, 59, 99, 38, 103, 116, 59, 60, 33, 45, 45, 32, 100, 32, 45, 45, 62, 60, 32, 38, 35, 120, 52, 49, 59, 38, 110, 111, 59, 60, 115, 116, 121, 108, 101, 62, 120, 60, 47, 83, 84, 89, 76, 69, 32, 62, 121]
theorem ex_part : readPt exS (-1) 0 0 exS.length false = exP := by kernel_rfl
theorem ex_bytes : bytesP exS exP = [60, 98, 62, 233, 60, 47, 98, 62, 60, 98, 114, 62, 38, 108, 116, 59] := by kernel_rfl
theorem ex_text : textOf exS exP = [195, 169, 10, 60] := by kernel_rfl
theorem ex_name : nameOf exS exP = [102, 46, 120] := by kernel_rfl
theorem ex_att : attachedP exS exP = false := by kernel_rfl
theorem ex_strip : stripP exT = [97, 10, 98, 32, 60, 99, 62, 60, 32, 65, 38, 110, 111, 59, 121] := by kernel_rfl
def LTrue15 (w : World) (e : Ending) (w' : World) : Prop := e = .returned (.bool true) ∧ Below w.heap.size w w'
set_option maxRecDepth 100000 in
theorem small15_any (w : World) (hT : Tabs w) (hE : EntM w) : Calls Tryz.prog 10 #[] w (LTrue15 w) := by
 have HT := Lib.hid hT
 have HE := Lib.hid hE
 have hpl : ∀ q ∈ exP.typ.params, q.1.length ≤ 100 ∧ q.2.length ≤ 100 := by decide
 have hp1 : ∀ q ∈ exP.typ.params, q.1.length ≤ 1000000000 := fun q hq => by have := hpl q hq; omega
 have hp2 : ∀ q ∈ exP.typ.params, q.2.length ≤ 2570000000 := fun q hq => by have := hpl q hq; omega
 have hp3 : ∀ q ∈ exP.typ.params, q.2.length ≤ 100000000 := fun q hq => by have := hpl q hq; omega
 have hsl : exS.length ≤ 300000 := by decide
 have HWH := Lib.hid (show ∀ W, Tabs W → Calls Tryz.prog 24 #[.string (ba exS)] W fun e w' => ∃ A n c, e = .returned (.tuple #[.agg #[.int .i64 (-1), .int .i64 0, .int .i64 0, .int .i64 129, .int .i64 155, .string (ba wText), .string (ba wHtml), .slice A n c, .string (ba wB64)], .bool true]) ∧ Pars w' w'.heap.size A n exP.typ.params ∧ Below W.heap.size W w' from fun W hW => whole_any exS exP W (by omega) hW ex_part)
 have HBY := Lib.hid (show ∀ W A n c, Tabs W → Calls Tryz.prog 13 #[.string (ba exS), .agg #[.int .i64 (-1), .int .i64 0, .int .i64 0, .int .i64 129, .int .i64 155, .string (ba wText), .string (ba wHtml), .slice A n c, .string (ba wB64)]] W (StrB W [60, 98, 62, 233, 60, 47, 98, 62, 60, 98, 114, 62, 38, 108, 116, 59]) from fun W A n c hW => by rw [← ex_bytes]; exact bytes_any exS exP A n c W (by omega) hW)
 have HTX := Lib.hid (show ∀ W A n c, Tabs W → EntM W → Pars W W.heap.size A n exP.typ.params → Calls Tryz.prog 15 #[.string (ba exS), .agg #[.int .i64 (-1), .int .i64 0, .int .i64 0, .int .i64 129, .int .i64 155, .string (ba wText), .string (ba wHtml), .slice A n c, .string (ba wB64)]] W (StrB W [195, 169, 10, 60]) from fun W A n c hW hE hP => by rw [← ex_text]; exact text_any exS exP A n c W (by omega) hP (by decide) hp1 hp2 hW hE)
 have HNM := Lib.hid (show ∀ W A n c, Tabs W → Pars W W.heap.size A n exP.typ.params → Calls Tryz.prog 17 #[.string (ba exS), .agg #[.int .i64 (-1), .int .i64 0, .int .i64 0, .int .i64 129, .int .i64 155, .string (ba wText), .string (ba wHtml), .slice A n c, .string (ba wB64)]] W (StrB W [102, 46, 120]) from fun W A n c hW hP => by rw [← ex_name]; exact name_any exS exP A n c W hsl hP (by decide) hp1 hp3 hW)
 have HAT := Lib.hid (show ∀ W A n c, Tabs W → Pars W W.heap.size A n exP.typ.params → Calls Tryz.prog 19 #[.string (ba exS), .agg #[.int .i64 (-1), .int .i64 0, .int .i64 0, .int .i64 129, .int .i64 155, .string (ba wText), .string (ba wHtml), .slice A n c, .string (ba wB64)]] W (fun e w' => e = .returned (.bool false) ∧ Below W.heap.size W w') from fun W A n c hW hP => by rw [← ex_att]; exact attached_any exS exP A n c W hsl hP (by decide) hp1 hp3 hW)
 have HST := Lib.hid (show ∀ W, Tabs W → EntM W → Calls Tryz.prog 21 #[.string ⟨#[97, 60, 98, 114, 62, 98, 32, 38, 108, 116, 59, 99, 38, 103, 116, 59, 60, 33, 45, 45, 32, 100, 32, 45, 45, 62, 60, 32, 38, 35, 120, 52, 49, 59, 38, 110, 111, 59, 60, 115, 116, 121, 108, 101, 62, 120, 60, 47, 83, 84, 89, 76, 69, 32, 62, 121]⟩] W (StrB W [97, 10, 98, 32, 60, 99, 62, 60, 32, 65, 38, 110, 111, 59, 121]) from fun W hW hE => by rw [← ex_strip]; exact strip_any exT W (by decide) hW hE)
 unfold StrB at HBY HTX HNM HST
 have n1 : (ba [60, 98, 62, 233, 60, 47, 98, 62, 60, 98, 114, 62, 38, 108, 116, 59]).toList = [60, 98, 62, 233, 60, 47, 98, 62, 60, 98, 114, 62, 38, 108, 116, 59] := ba_toList _
 have n2 : (ba [195, 169, 10, 60]).toList = [195, 169, 10, 60] := ba_toList _
 have n3 : (ba [102, 46, 120]).toList = [102, 46, 120] := ba_toList _
 have n4 : (ba [97, 10, 98, 32, 60, 99, 62, 60, 32, 65, 38, 110, 111, 59, 121]).toList = [97, 10, 98, 32, 60, 99, 62, 60, 32, 65, 38, 110, 111, 59, 121] := ba_toList _
 clear hT hE hpl hp1 hp2 hp3 hsl
 obtain ⟨S, hS⟩ : ∃ S, ba exS = S := ⟨_, rfl⟩
 rw [hS] at HWH HBY HTX HNM HAT
 have HS := Lib.hid hS
 clear hS
 go_enter Tryz.func10, Tryz.ntmps10
 go_wp2_with fail
 rw [show (⟨#[67, 111, 110, 116, 101, 110, 116, 45, 84, 121, 112, 101, 58, 32, 116, 101, 120, 116, 47, 104, 116, 109, 108, 59, 32, 99, 104, 97, 114, 115, 101, 116, 61, 108, 97, 116, 105, 110, 49, 59, 32, 110, 97, 109, 101, 61, 110, 13, 10, 67, 111, 110, 116, 101, 110, 116, 45, 84, 114, 97, 110, 115, 102, 101, 114, 45, 69, 110, 99, 111, 100, 105, 110, 103, 58, 32, 66, 97, 115, 101, 54, 52, 13, 10, 67, 111, 110, 116, 101, 110, 116, 45, 68, 105, 115, 112, 111, 115, 105, 116, 105, 111, 110, 58, 32, 105, 110, 108, 105, 110, 101, 59, 32, 102, 105, 108, 101, 110, 97, 109, 101, 61, 102, 46, 120, 13, 10, 13, 10, 80, 71, 73, 43, 54, 84, 119, 118, 13, 10, 89, 106, 52, 56, 89, 110, 73, 43, 74, 109, 120, 48, 79, 119, 61, 61]⟩ : ByteArray) = S from HS.out]
 refine (HWH.out w HT.out).mono ?_
 rintro e w1 ⟨A, n, c, rfl, hP1, hb1⟩
 have HBX := Lib.hid (show Below w1.heap.size w1 (w1.alloc (.cells #[.int .i64 (-1), .int .i64 0, .int .i64 0, .int .i64 129, .int .i64 155, .string (ba wText), .string (ba wHtml), .slice A n c, .string (ba wB64)] 26)) from (Below.refl _ _).alloc (Nat.le_refl _) _)
 have hx1 := (MapKept.heap_alloc w1 (.cells #[.int .i64 (-1), .int .i64 0, .int .i64 0, .int .i64 129, .int .i64 155, .string (ba wText), .string (ba wHtml), .slice A n c, .string (ba wB64)] 26)).1
 have HX1 := Lib.hid hx1
 have b0 := cells_at HX1.out 0 (u := .int .i64 (-1)) rfl
 have b1 := cells_at HX1.out 1 (u := .int .i64 0) rfl
 have b2 := cells_at HX1.out 2 (u := .int .i64 0) rfl
 have b3 := cells_at HX1.out 3 (u := .int .i64 129) rfl
 have b4 := cells_at HX1.out 4 (u := .int .i64 155) rfl
 have b5 := cells_at HX1.out 5 (u := .string (ba wText)) rfl
 have b6 := cells_at HX1.out 6 (u := .string (ba wHtml)) rfl
 have b7 := cells_at HX1.out 7 (u := .slice A n c) rfl
 have b8 := cells_at HX1.out 8 (u := .string (ba wB64)) rfl
 have HB1 := Lib.hid (hb1.trans (HBX.out.mono hb1.size))
 have HP1 := Lib.hid ((hP1.below HBX.out).more (B' := (w1.alloc (.cells #[.int .i64 (-1), .int .i64 0, .int .i64 0, .int .i64 129, .int .i64 155, .string (ba wText), .string (ba wHtml), .slice A n c, .string (ba wB64)] 26)).heap.size) HBX.out.size)
 clear hb1 hP1 hx1
 go_wp2_with fail
 refine (HBY.out _ A n c (HT.out.below HB1.out)).mono ?_
 rintro e w2 ⟨rfl, hb2⟩
 have HX2 := Lib.hid ((hb2.block _ (heap_lt HX1.out)).trans HX1.out)
 have HB2 := Lib.hid (HB1.out.trans (hb2.mono HB1.out.size))
 have HP2 := Lib.hid ((HP1.out.below hb2).more hb2.size)
 clear b0 b1 b2 b3 b4 b5 b6 b7 b8 hb2
 have c0 := cells_at HX2.out 0 (u := .int .i64 (-1)) rfl
 have c1 := cells_at HX2.out 1 (u := .int .i64 0) rfl
 have c2 := cells_at HX2.out 2 (u := .int .i64 0) rfl
 have c3 := cells_at HX2.out 3 (u := .int .i64 129) rfl
 have c4 := cells_at HX2.out 4 (u := .int .i64 155) rfl
 have c5 := cells_at HX2.out 5 (u := .string (ba wText)) rfl
 have c6 := cells_at HX2.out 6 (u := .string (ba wHtml)) rfl
 have c7 := cells_at HX2.out 7 (u := .slice A n c) rfl
 have c8 := cells_at HX2.out 8 (u := .string (ba wB64)) rfl
 go_wp2_with fail
 refine (HTX.out _ A n c (HT.out.below HB2.out) (HE.out.below HB2.out) HP2.out).mono ?_
 rintro e w3 ⟨rfl, hb3⟩
 have HX3 := Lib.hid ((hb3.block _ (heap_lt HX2.out)).trans HX2.out)
 have HB3 := Lib.hid (HB2.out.trans (hb3.mono HB2.out.size))
 have HP3 := Lib.hid ((HP2.out.below hb3).more hb3.size)
 clear c0 c1 c2 c3 c4 c5 c6 c7 c8 hb3
 have d0 := cells_at HX3.out 0 (u := .int .i64 (-1)) rfl
 have d1 := cells_at HX3.out 1 (u := .int .i64 0) rfl
 have d2 := cells_at HX3.out 2 (u := .int .i64 0) rfl
 have d3 := cells_at HX3.out 3 (u := .int .i64 129) rfl
 have d4 := cells_at HX3.out 4 (u := .int .i64 155) rfl
 have d5 := cells_at HX3.out 5 (u := .string (ba wText)) rfl
 have d6 := cells_at HX3.out 6 (u := .string (ba wHtml)) rfl
 have d7 := cells_at HX3.out 7 (u := .slice A n c) rfl
 have d8 := cells_at HX3.out 8 (u := .string (ba wB64)) rfl
 go_wp2_with fail
 refine (HNM.out _ A n c (HT.out.below HB3.out) HP3.out).mono ?_
 rintro e w4 ⟨rfl, hb4⟩
 have HX4 := Lib.hid ((hb4.block _ (heap_lt HX3.out)).trans HX3.out)
 have HB4 := Lib.hid (HB3.out.trans (hb4.mono HB3.out.size))
 have HP4 := Lib.hid ((HP3.out.below hb4).more hb4.size)
 clear d0 d1 d2 d3 d4 d5 d6 d7 d8 hb4
 have e0 := cells_at HX4.out 0 (u := .int .i64 (-1)) rfl
 have e1 := cells_at HX4.out 1 (u := .int .i64 0) rfl
 have e2 := cells_at HX4.out 2 (u := .int .i64 0) rfl
 have e3 := cells_at HX4.out 3 (u := .int .i64 129) rfl
 have e4 := cells_at HX4.out 4 (u := .int .i64 155) rfl
 have e5 := cells_at HX4.out 5 (u := .string (ba wText)) rfl
 have e6 := cells_at HX4.out 6 (u := .string (ba wHtml)) rfl
 have e7 := cells_at HX4.out 7 (u := .slice A n c) rfl
 have e8 := cells_at HX4.out 8 (u := .string (ba wB64)) rfl
 go_wp2_with fail
 refine (HAT.out _ A n c (HT.out.below HB4.out) HP4.out).mono ?_
 rintro e w5 ⟨rfl, hb5⟩
 have HB5 := Lib.hid (HB4.out.trans (hb5.mono HB4.out.size))
 clear e0 e1 e2 e3 e4 e5 e6 e7 e8 hb5
 go_wp2_with fail
 refine (HST.out _ (HT.out.below HB5.out) (HE.out.below HB5.out)).mono ?_
 rintro e w6 ⟨rfl, hb6⟩
 have HB6 := Lib.hid (HB5.out.trans (hb6.mono HB5.out.size))
 clear hb6
 go_wp2
 go_ret
 exact ⟨rfl, HB6.out⟩
end Go.Proofs.YthidbmeaccpjdaaGreatDoor
