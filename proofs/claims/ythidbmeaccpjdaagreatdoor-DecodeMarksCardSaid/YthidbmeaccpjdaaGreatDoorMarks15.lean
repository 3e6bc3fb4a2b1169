/- Law 15: the walk of DecodeMarks (printed by gen_back15.py). -/
import Derived.Test.YthidbmeaccpjdaaGreatDoorM45
import Derived.Test.YthidbmeaccpjdaaGreatDoorM38
import Derived.Test.YthidbmeaccpjdaaGreatDoorM46
namespace Go.Proofs.YthidbmeaccpjdaaGreatDoor
open Go.RowKit
set_option linter.unusedVariables false

set_option maxRecDepth 100000 in
set_option maxHeartbeats 4000000 in
theorem marks15_any (s : List UInt8) (how : Int) (w : World) (hs : s.length ≤ 9223372036854775807) (hT : Tabs w) (hE : EntM w) :
    Calls Tryz.prog 7 #[.string (ba s), .int .i64 how] w (LTrue15 w) := by
  have HSM := Lib.hid (small15_any w hT hE)
  have HT := Lib.hid hT
  have HE := Lib.hid hE
  have hz : ((ba s).size : Int) = (s.length : Int) := by rw [ba_size]
  unfold LTrue15 at HSM
  clear hT hE hs
  by_cases h3 : s.length ≤ 2000
  case neg =>
    have g3 : (2000 : Int) < (s.length : Int) := by omega
    clear h3
    go_enter Tryz.func7, Tryz.ntmps7
    go_wp2_with fail
    refine HSM.out.mono ?_
    rintro e w1 ⟨rfl, hb1⟩
    have HB1 := Lib.hid hb1
    clear hb1
    go_wp2
    go_ret
    exact ⟨rfl, HB1.out⟩
  have g3 : ¬ (2000 : Int) < (s.length : Int) := by omega
  have hkl := markP_len s
  obtain ⟨n, hn⟩ : ∃ n, wayP how = n := ⟨_, rfl⟩
  have hn3 : n < 3 := by rw [← hn]; exact way_lt how
  have HMK := Lib.hid (fun W => marked_any s W (by omega))
  have HLAM := Lib.hid (show ∀ W, Below w.heap.size w W → Calls Tryz.prog 23 #[.string ⟨#[116, 101, 120, 116, 47, 104, 116, 109, 108]⟩, .int .i64 how, .string (ba (markP s))] W (StrB W (laidN kHtml n (markP s))) from fun W hW => by have h := laid15_any kHtml how (markP s) W (.inr (.inr rfl)) (by omega) (HT.out.below hW); rw [hn] at h; exact h)
  have hmlM : (laidN kHtml n (markP s)).length ≤ 300000 := by
    have h1 := (headN_len kHtml (.inr (.inr rfl)) n hn3).2.2
    have h2 := encN_len n (markP s)
    unfold laidN
    rw [List.length_append]
    omega
  have hppM : ∀ q ∈ tHtml.params, q.1.length ≤ 100 ∧ q.2.length ≤ 100 := by decide
  have HWHM := Lib.hid (show ∀ W, Below w.heap.size w W → Calls Tryz.prog 24 #[.string (ba (laidN kHtml n (markP s)))] W fun e w' => ∃ A m c, e = .returned (.tuple #[.agg #[.int .i64 (-1), .int .i64 0, .int .i64 0, .int .i64 (((headN kHtml n).length : Nat) : Int), .int .i64 (((laidN kHtml n (markP s)).length : Nat) : Int), .string (ba tHtml.kind), .string (ba tHtml.sub), .slice A m c, .string (ba (codN n))], .bool true]) ∧ Pars w' w'.heap.size A m tHtml.params ∧ Below W.heap.size W w' from fun W hW => whole_any (laidN kHtml n (markP s)) (partN (headN kHtml n) (laidN kHtml n (markP s)).length tHtml (codN n)) W (by omega) (HT.out.below hW) (back_read (says_html n hn3)))
  have HTXM := Lib.hid (show ∀ W A m c, Below w.heap.size w W → Pars W W.heap.size A m tHtml.params → Calls Tryz.prog 15 #[.string (ba (laidN kHtml n (markP s))), .agg #[.int .i64 (-1), .int .i64 0, .int .i64 0, .int .i64 (((headN kHtml n).length : Nat) : Int), .int .i64 (((laidN kHtml n (markP s)).length : Nat) : Int), .string (ba tHtml.kind), .string (ba tHtml.sub), .slice A m c, .string (ba (codN n))]] W (StrB W (lfP (repairP s))) from fun W A m c hW hP => by
    have h := text_any (laidN kHtml n (markP s)) (partN (headN kHtml n) (laidN kHtml n (markP s)).length tHtml (codN n)) A m c W (by omega) hP (show tHtml.params.length ≤ 1000000000 by decide) (fun q hq => by have := hppM q hq; omega) (fun q hq => by have := hppM q hq; omega) (HT.out.below hW) (HE.out.below hW)
    rw [back_html n hn3 s] at h
    exact h)
  have HST := Lib.hid (show ∀ W, Below w.heap.size w W → Calls Tryz.prog 21 #[.string (ba (markP s))] W (StrB W s) from fun W hW => by
    have h := strip_any (markP s) W (by omega) (HT.out.below hW) (HE.out.below hW)
    rw [strip_mark] at h
    exact h)
  have hrl := repair_len s
  have HRP := Lib.hid (fun W (hW : Below w.heap.size w W) => repair_any s W (by omega) (HT.out.below hW))
  have HLN := Lib.hid (fun W => lines15_any (repairP s) W (by omega))
  unfold StrB at HLAM HTXM HRP HLN HMK HST
  clear hrl h3 hn hn3 hmlM hppM hkl
  go_enter Tryz.func7, Tryz.ntmps7
  go_wp2_with fail
  refine HSM.out.mono ?_
  rintro e w1 ⟨rfl, hb1⟩
  have HB1 := Lib.hid hb1
  clear hb1
  go_wp2_with fail
  refine (HMK.out _).mono ?_
  rintro e w2 ⟨rfl, hb2⟩
  have HB2 := Lib.hid (HB1.out.trans (hb2.mono HB1.out.size))
  clear hb2
  go_wp2_with fail
  refine (HLAM.out _ HB2.out).mono ?_
  rintro e w3 ⟨rfl, hb3⟩
  have HB3 := Lib.hid (HB2.out.trans (hb3.mono HB2.out.size))
  clear hb3
  go_wp2_with fail
  refine (HWHM.out _ HB3.out).mono ?_
  rintro e w4 ⟨A1, m1, cp1, rfl, hP1, hb4⟩
  have HBX := Lib.hid (show Below w4.heap.size w4 (w4.alloc (.cells #[.int .i64 (-1), .int .i64 0, .int .i64 0, .int .i64 (((headN kHtml n).length : Nat) : Int), .int .i64 (((laidN kHtml n (markP s)).length : Nat) : Int), .string (ba tHtml.kind), .string (ba tHtml.sub), .slice A1 m1 cp1, .string (ba (codN n))] 26)) from (Below.refl _ _).alloc (Nat.le_refl _) _)
  have hx4 := (MapKept.heap_alloc w4 (.cells #[.int .i64 (-1), .int .i64 0, .int .i64 0, .int .i64 (((headN kHtml n).length : Nat) : Int), .int .i64 (((laidN kHtml n (markP s)).length : Nat) : Int), .string (ba tHtml.kind), .string (ba tHtml.sub), .slice A1 m1 cp1, .string (ba (codN n))] 26)).1
  have HX4 := Lib.hid hx4
  have HB4 := Lib.hid ((HB3.out.trans (hb4.mono HB3.out.size)).trans (HBX.out.mono (Nat.le_trans HB3.out.size hb4.size)))
  have HP4 := Lib.hid ((hP1.below HBX.out).more HBX.out.size)
  clear hb4 hP1 hx4
  go_wp2_with fail
  refine (HMK.out _).mono ?_
  rintro e w5 ⟨rfl, hb5⟩
  have HX5 := Lib.hid ((hb5.block _ (heap_lt HX4.out)).trans HX4.out)
  have HB5 := Lib.hid (HB4.out.trans (hb5.mono HB4.out.size))
  have HP5 := Lib.hid ((HP4.out.below hb5).more hb5.size)
  clear hb5
  go_wp2_with fail
  refine (HST.out _ HB5.out).mono ?_
  rintro e w6 ⟨rfl, hb6⟩
  have HX6 := Lib.hid ((hb6.block _ (heap_lt HX5.out)).trans HX5.out)
  have HB6 := Lib.hid (HB5.out.trans (hb6.mono HB5.out.size))
  have HP6 := Lib.hid ((HP5.out.below hb6).more hb6.size)
  clear hb6
  have b0 := cells_at HX6.out 0 (u := .int .i64 (-1)) rfl
  have b1 := cells_at HX6.out 1 (u := .int .i64 0) rfl
  have b2 := cells_at HX6.out 2 (u := .int .i64 0) rfl
  have b3 := cells_at HX6.out 3 (u := .int .i64 (((headN kHtml n).length : Nat) : Int)) rfl
  have b4 := cells_at HX6.out 4 (u := .int .i64 (((laidN kHtml n (markP s)).length : Nat) : Int)) rfl
  have b5 := cells_at HX6.out 5 (u := .string (ba tHtml.kind)) rfl
  have b6 := cells_at HX6.out 6 (u := .string (ba tHtml.sub)) rfl
  have b7 := cells_at HX6.out 7 (u := .slice A1 m1 cp1) rfl
  have b8 := cells_at HX6.out 8 (u := .string (ba (codN n))) rfl
  go_wp2_with fail
  refine (HTXM.out _ A1 m1 cp1 HB6.out HP6.out).mono ?_
  rintro e w7 ⟨rfl, hb7⟩
  have HB7 := Lib.hid (HB6.out.trans (hb7.mono HB6.out.size))
  clear hb7 b0 b1 b2 b3 b4 b5 b6 b7 b8
  go_wp2_with fail
  refine (HRP.out _ HB7.out).mono ?_
  rintro e w8 ⟨rfl, hb8⟩
  have HB8 := Lib.hid (HB7.out.trans (hb8.mono HB7.out.size))
  clear hb8
  go_wp2_with fail
  refine (HLN.out _).mono ?_
  rintro e w9 ⟨rfl, hb9⟩
  have HB9 := Lib.hid (HB8.out.trans (hb9.mono HB8.out.size))
  clear hb9
  go_wp2
  go_ret
  exact ⟨rfl, HB9.out⟩
end Go.Proofs.YthidbmeaccpjdaaGreatDoor
