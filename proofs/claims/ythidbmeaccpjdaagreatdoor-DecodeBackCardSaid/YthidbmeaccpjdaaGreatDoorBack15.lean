/- Law 15: the walk of DecodeBack (printed by gen_back15.py). -/
import Derived.Test.YthidbmeaccpjdaaGreatDoorM45
import Derived.Test.YthidbmeaccpjdaaGreatDoorM38
import Derived.Test.YthidbmeaccpjdaaGreatDoorM46
namespace Go.Proofs.YthidbmeaccpjdaaGreatDoor
open Go.RowKit
set_option linter.unusedVariables false

theorem few15_any (l : List UInt8) (w : World) : Calls Tryz.prog 11 #[.string (ba l)] w fun e w' => e = .returned (.bool (decide (l.length ≤ 3000))) ∧ w' = w := by
  have hz : ((ba l).size : Int) = (l.length : Int) := by rw [ba_size]
  by_cases h : l.length ≤ 3000
  · have h1 : (l.length : Int) ≤ 3000 := by omega
    have HV := Lib.hid (decide_eq_true h)
    clear h
    go_enter Tryz.func11, Tryz.ntmps11
    go_wp2
    go_ret
    exact ⟨by rw [HV.out]; rfl, rfl⟩
  · have h1 : ¬ (l.length : Int) ≤ 3000 := by omega
    have HV := Lib.hid (decide_eq_false h)
    clear h
    go_enter Tryz.func11, Tryz.ntmps11
    go_wp2
    go_ret
    exact ⟨by rw [HV.out]; rfl, rfl⟩
set_option maxRecDepth 100000 in
set_option maxHeartbeats 4000000 in
theorem back15_any (s : List UInt8) (how : Int) (w : World) (hs : s.length ≤ 9223372036854775807) (hT : Tabs w) (hE : EntM w) :
    Calls Tryz.prog 6 #[.string (ba s), .int .i64 how] w (LTrue15 w) := by
  have HSM := Lib.hid (small15_any w hT hE)
  have HT := Lib.hid hT
  have HE := Lib.hid hE
  have HFW := Lib.hid (fun W => few15_any s W)
  unfold LTrue15 at HSM
  clear hT hE hs
  by_cases h3 : s.length ≤ 3000
  case neg =>
    have HV := Lib.hid (decide_eq_false h3)
    rw [HV.out] at HFW
    clear h3
    go_enter Tryz.func6, Tryz.ntmps6
    go_wp2_with fail
    refine HSM.out.mono ?_
    rintro e w1 ⟨rfl, hb1⟩
    have HB1 := Lib.hid hb1
    clear hb1
    go_wp2_with fail
    refine (HFW.out _).mono ?_
    rintro e w2 ⟨rfl, hw⟩
    obtain rfl : w1 = w2 := hw.symm
    clear hw
    go_wp2
    go_ret
    exact ⟨rfl, HB1.out⟩
  have HV := Lib.hid (decide_eq_true h3)
  rw [HV.out] at HFW
  obtain ⟨n, hn⟩ : ∃ n, wayP how = n := ⟨_, rfl⟩
  have hn3 : n < 3 := by rw [← hn]; exact way_lt how
  have HLAM := Lib.hid (show ∀ W, Below w.heap.size w W → Calls Tryz.prog 23 #[.string ⟨#[116, 101, 120, 116, 47, 112, 108, 97, 105, 110, 59, 32, 99, 104, 97, 114, 115, 101, 116, 61, 117, 116, 102, 45, 56]⟩, .int .i64 how, .string (ba s)] W (StrB W (laidN kPlain n s)) from fun W hW => by have h := laid15_any kPlain how s W (.inl rfl) (by omega) (HT.out.below hW); rw [hn] at h; exact h)
  have hmlM : (laidN kPlain n s).length ≤ 300000 := by
    have h1 := (headN_len kPlain (.inl rfl) n hn3).2.2
    have h2 := encN_len n s
    unfold laidN
    rw [List.length_append]
    omega
  have hppM : ∀ q ∈ tPlain.params, q.1.length ≤ 100 ∧ q.2.length ≤ 100 := by decide
  have HWHM := Lib.hid (show ∀ W, Below w.heap.size w W → Calls Tryz.prog 24 #[.string (ba (laidN kPlain n s))] W fun e w' => ∃ A m c, e = .returned (.tuple #[.agg #[.int .i64 (-1), .int .i64 0, .int .i64 0, .int .i64 (((headN kPlain n).length : Nat) : Int), .int .i64 (((laidN kPlain n s).length : Nat) : Int), .string (ba tPlain.kind), .string (ba tPlain.sub), .slice A m c, .string (ba (codN n))], .bool true]) ∧ Pars w' w'.heap.size A m tPlain.params ∧ Below W.heap.size W w' from fun W hW => whole_any (laidN kPlain n s) (partN (headN kPlain n) (laidN kPlain n s).length tPlain (codN n)) W (by omega) (HT.out.below hW) (back_read (says_plain n hn3)))
  have HLAB := Lib.hid (show ∀ W, Below w.heap.size w W → Calls Tryz.prog 23 #[.string ⟨#[97, 112, 112, 108, 105, 99, 97, 116, 105, 111, 110, 47, 111, 99, 116, 101, 116, 45, 115, 116, 114, 101, 97, 109]⟩, .int .i64 how, .string (ba s)] W (StrB W (laidN kBytes n s)) from fun W hW => by have h := laid15_any kBytes how s W (.inr (.inl rfl)) (by omega) (HT.out.below hW); rw [hn] at h; exact h)
  have hmlB : (laidN kBytes n s).length ≤ 300000 := by
    have h1 := (headN_len kBytes (.inr (.inl rfl)) n hn3).2.2
    have h2 := encN_len n s
    unfold laidN
    rw [List.length_append]
    omega
  have hppB : ∀ q ∈ tBytes.params, q.1.length ≤ 100 ∧ q.2.length ≤ 100 := by decide
  have HWHB := Lib.hid (show ∀ W, Below w.heap.size w W → Calls Tryz.prog 24 #[.string (ba (laidN kBytes n s))] W fun e w' => ∃ A m c, e = .returned (.tuple #[.agg #[.int .i64 (-1), .int .i64 0, .int .i64 0, .int .i64 (((headN kBytes n).length : Nat) : Int), .int .i64 (((laidN kBytes n s).length : Nat) : Int), .string (ba tBytes.kind), .string (ba tBytes.sub), .slice A m c, .string (ba (codN n))], .bool true]) ∧ Pars w' w'.heap.size A m tBytes.params ∧ Below W.heap.size W w' from fun W hW => whole_any (laidN kBytes n s) (partN (headN kBytes n) (laidN kBytes n s).length tBytes (codN n)) W (by omega) (HT.out.below hW) (back_read (says_bytes n hn3)))
  have HBYM := Lib.hid (show ∀ W A m c, Below w.heap.size w W → Calls Tryz.prog 13 #[.string (ba (laidN kPlain n s)), .agg #[.int .i64 (-1), .int .i64 0, .int .i64 0, .int .i64 (((headN kPlain n).length : Nat) : Int), .int .i64 (((laidN kPlain n s).length : Nat) : Int), .string (ba tPlain.kind), .string (ba tPlain.sub), .slice A m c, .string (ba (codN n))]] W (StrB W s) from fun W A m c hW => by
    have h := bytes_any (laidN kPlain n s) (partN (headN kPlain n) (laidN kPlain n s).length tPlain (codN n)) A m c W (by omega) (HT.out.below hW)
    have e : bytesP (laidN kPlain n s) (partN (headN kPlain n) (laidN kPlain n s).length tPlain (codN n)) = s := back_bytes hn3 (says_plain n hn3) s
    rw [e] at h
    exact h)
  have HBYB := Lib.hid (show ∀ W A m c, Below w.heap.size w W → Calls Tryz.prog 13 #[.string (ba (laidN kBytes n s)), .agg #[.int .i64 (-1), .int .i64 0, .int .i64 0, .int .i64 (((headN kBytes n).length : Nat) : Int), .int .i64 (((laidN kBytes n s).length : Nat) : Int), .string (ba tBytes.kind), .string (ba tBytes.sub), .slice A m c, .string (ba (codN n))]] W (StrB W s) from fun W A m c hW => by
    have h := bytes_any (laidN kBytes n s) (partN (headN kBytes n) (laidN kBytes n s).length tBytes (codN n)) A m c W (by omega) (HT.out.below hW)
    have e : bytesP (laidN kBytes n s) (partN (headN kBytes n) (laidN kBytes n s).length tBytes (codN n)) = s := back_bytes hn3 (says_bytes n hn3) s
    rw [e] at h
    exact h)
  have HTXM := Lib.hid (show ∀ W A m c, Below w.heap.size w W → Pars W W.heap.size A m tPlain.params → Calls Tryz.prog 15 #[.string (ba (laidN kPlain n s)), .agg #[.int .i64 (-1), .int .i64 0, .int .i64 0, .int .i64 (((headN kPlain n).length : Nat) : Int), .int .i64 (((laidN kPlain n s).length : Nat) : Int), .string (ba tPlain.kind), .string (ba tPlain.sub), .slice A m c, .string (ba (codN n))]] W (StrB W (lfP (repairP s))) from fun W A m c hW hP => by
    have h := text_any (laidN kPlain n s) (partN (headN kPlain n) (laidN kPlain n s).length tPlain (codN n)) A m c W (by omega) hP (show tPlain.params.length ≤ 1000000000 by decide) (fun q hq => by have := hppM q hq; omega) (fun q hq => by have := hppM q hq; omega) (HT.out.below hW) (HE.out.below hW)
    rw [back_text n hn3 s] at h
    exact h)
  have HTXB := Lib.hid (show ∀ W A m c, Below w.heap.size w W → Pars W W.heap.size A m tBytes.params → Calls Tryz.prog 15 #[.string (ba (laidN kBytes n s)), .agg #[.int .i64 (-1), .int .i64 0, .int .i64 0, .int .i64 (((headN kBytes n).length : Nat) : Int), .int .i64 (((laidN kBytes n s).length : Nat) : Int), .string (ba tBytes.kind), .string (ba tBytes.sub), .slice A m c, .string (ba (codN n))]] W (StrB W ([])) from fun W A m c hW hP => by
    have h := text_any (laidN kBytes n s) (partN (headN kBytes n) (laidN kBytes n s).length tBytes (codN n)) A m c W (by omega) hP (show tBytes.params.length ≤ 1000000000 by decide) (fun q hq => by have := hppB q hq; omega) (fun q hq => by have := hppB q hq; omega) (HT.out.below hW) (HE.out.below hW)
    rw [back_text2 n s] at h
    exact h)
  have HATM := Lib.hid (show ∀ W A m c, Below w.heap.size w W → Pars W W.heap.size A m tPlain.params → Calls Tryz.prog 19 #[.string (ba (laidN kPlain n s)), .agg #[.int .i64 (-1), .int .i64 0, .int .i64 0, .int .i64 (((headN kPlain n).length : Nat) : Int), .int .i64 (((laidN kPlain n s).length : Nat) : Int), .string (ba tPlain.kind), .string (ba tPlain.sub), .slice A m c, .string (ba (codN n))]] W (fun e w' => e = .returned (.bool false) ∧ Below W.heap.size W w') from fun W A m c hW hP => by
    have h := attached_any (laidN kPlain n s) (partN (headN kPlain n) (laidN kPlain n s).length tPlain (codN n)) A m c W (by omega) hP (show tPlain.params.length ≤ 1000000000 by decide) (fun q hq => by have := hppM q hq; omega) (fun q hq => by have := hppM q hq; omega) (HT.out.below hW)
    have e : attachedP (laidN kPlain n s) (partN (headN kPlain n) (laidN kPlain n s).length tPlain (codN n)) = false := (back_att (says_plain n hn3) (by kernel_rfl)).trans (by kernel_rfl)
    rw [e] at h
    exact h)
  have HATB := Lib.hid (show ∀ W A m c, Below w.heap.size w W → Pars W W.heap.size A m tBytes.params → Calls Tryz.prog 19 #[.string (ba (laidN kBytes n s)), .agg #[.int .i64 (-1), .int .i64 0, .int .i64 0, .int .i64 (((headN kBytes n).length : Nat) : Int), .int .i64 (((laidN kBytes n s).length : Nat) : Int), .string (ba tBytes.kind), .string (ba tBytes.sub), .slice A m c, .string (ba (codN n))]] W (fun e w' => e = .returned (.bool true) ∧ Below W.heap.size W w') from fun W A m c hW hP => by
    have h := attached_any (laidN kBytes n s) (partN (headN kBytes n) (laidN kBytes n s).length tBytes (codN n)) A m c W (by omega) hP (show tBytes.params.length ≤ 1000000000 by decide) (fun q hq => by have := hppB q hq; omega) (fun q hq => by have := hppB q hq; omega) (HT.out.below hW)
    have e : attachedP (laidN kBytes n s) (partN (headN kBytes n) (laidN kBytes n s).length tBytes (codN n)) = true := (back_att (says_bytes n hn3) (by kernel_rfl)).trans (by kernel_rfl)
    rw [e] at h
    exact h)
  have hrl := repair_len s
  have HRP := Lib.hid (fun W (hW : Below w.heap.size w W) => repair_any s W (by omega) (HT.out.below hW))
  have HLN := Lib.hid (fun W => lines15_any (repairP s) W (by omega))
  unfold StrB at HLAM HLAB HBYM HBYB HTXM HTXB HRP HLN
  have n0 : (ba ([] : List UInt8)).toList = [] := ba_toList _
  clear hrl h3 hn hn3 hmlM hmlB hppM hppB
  go_enter Tryz.func6, Tryz.ntmps6
  go_wp2_with fail
  refine HSM.out.mono ?_
  rintro e w1 ⟨rfl, hb1⟩
  have HB1 := Lib.hid hb1
  clear hb1
  go_wp2_with fail
  refine (HFW.out _).mono ?_
  rintro e w2 ⟨rfl, hw⟩
  obtain rfl : w1 = w2 := hw.symm
  clear hw
  go_wp2_with fail
  refine (HLAM.out _ HB1.out).mono ?_
  rintro e w2 ⟨rfl, hb2⟩
  have HB2 := Lib.hid (HB1.out.trans (hb2.mono HB1.out.size))
  clear hb2
  go_wp2_with fail
  refine (HWHM.out _ HB2.out).mono ?_
  rintro e w3 ⟨A1, m1, cp1, rfl, hP1, hb3⟩
  have HBX := Lib.hid (show Below w3.heap.size w3 (w3.alloc (.cells #[.int .i64 (-1), .int .i64 0, .int .i64 0, .int .i64 (((headN kPlain n).length : Nat) : Int), .int .i64 (((laidN kPlain n s).length : Nat) : Int), .string (ba tPlain.kind), .string (ba tPlain.sub), .slice A1 m1 cp1, .string (ba (codN n))] 26)) from (Below.refl _ _).alloc (Nat.le_refl _) _)
  have hx3 := (MapKept.heap_alloc w3 (.cells #[.int .i64 (-1), .int .i64 0, .int .i64 0, .int .i64 (((headN kPlain n).length : Nat) : Int), .int .i64 (((laidN kPlain n s).length : Nat) : Int), .string (ba tPlain.kind), .string (ba tPlain.sub), .slice A1 m1 cp1, .string (ba (codN n))] 26)).1
  have HX3 := Lib.hid hx3
  have HB3 := Lib.hid ((HB2.out.trans (hb3.mono HB2.out.size)).trans (HBX.out.mono (Nat.le_trans HB2.out.size hb3.size)))
  have HP3 := Lib.hid ((hP1.below HBX.out).more HBX.out.size)
  clear hb3 hP1 hx3
  go_wp2_with fail
  refine (HLAB.out _ HB3.out).mono ?_
  rintro e w4 ⟨rfl, hb4⟩
  have HX4 := Lib.hid ((hb4.block _ (heap_lt HX3.out)).trans HX3.out)
  have HB4 := Lib.hid (HB3.out.trans (hb4.mono HB3.out.size))
  have HP4 := Lib.hid ((HP3.out.below hb4).more hb4.size)
  clear hb4
  go_wp2_with fail
  refine (HWHB.out _ HB4.out).mono ?_
  rintro e w5 ⟨A2, m2, cp2, rfl, hP2, hb5⟩
  have HBY5 := Lib.hid (show Below w5.heap.size w5 (w5.alloc (.cells #[.int .i64 (-1), .int .i64 0, .int .i64 0, .int .i64 (((headN kBytes n).length : Nat) : Int), .int .i64 (((laidN kBytes n s).length : Nat) : Int), .string (ba tBytes.kind), .string (ba tBytes.sub), .slice A2 m2 cp2, .string (ba (codN n))] 26)) from (Below.refl _ _).alloc (Nat.le_refl _) _)
  have hy5 := (MapKept.heap_alloc w5 (.cells #[.int .i64 (-1), .int .i64 0, .int .i64 0, .int .i64 (((headN kBytes n).length : Nat) : Int), .int .i64 (((laidN kBytes n s).length : Nat) : Int), .string (ba tBytes.kind), .string (ba tBytes.sub), .slice A2 m2 cp2, .string (ba (codN n))] 26)).1
  have HY5 := Lib.hid hy5
  have HX5 := Lib.hid ((HBY5.out.block _ (heap_lt ((hb5.block _ (heap_lt HX4.out)).trans HX4.out))).trans ((hb5.block _ (heap_lt HX4.out)).trans HX4.out))
  have HB5 := Lib.hid ((HB4.out.trans (hb5.mono HB4.out.size)).trans (HBY5.out.mono (Nat.le_trans HB4.out.size hb5.size)))
  have HP5 := Lib.hid ((((HP4.out.below hb5).more hb5.size).below HBY5.out).more HBY5.out.size)
  have HQ5 := Lib.hid ((hP2.below HBY5.out).more HBY5.out.size)
  clear hb5 hP2 hy5
  have b0 := cells_at HX5.out 0 (u := .int .i64 (-1)) rfl
  have b1 := cells_at HX5.out 1 (u := .int .i64 0) rfl
  have b2 := cells_at HX5.out 2 (u := .int .i64 0) rfl
  have b3 := cells_at HX5.out 3 (u := .int .i64 (((headN kPlain n).length : Nat) : Int)) rfl
  have b4 := cells_at HX5.out 4 (u := .int .i64 (((laidN kPlain n s).length : Nat) : Int)) rfl
  have b5 := cells_at HX5.out 5 (u := .string (ba tPlain.kind)) rfl
  have b6 := cells_at HX5.out 6 (u := .string (ba tPlain.sub)) rfl
  have b7 := cells_at HX5.out 7 (u := .slice A1 m1 cp1) rfl
  have b8 := cells_at HX5.out 8 (u := .string (ba (codN n))) rfl
  go_wp2_with fail
  refine (HBYM.out _ A1 m1 cp1 HB5.out).mono ?_
  rintro e w6 ⟨rfl, hb6⟩
  have HX6 := Lib.hid ((hb6.block _ (heap_lt HX5.out)).trans HX5.out)
  have HY6 := Lib.hid ((hb6.block _ (heap_lt HY5.out)).trans HY5.out)
  have HB6 := Lib.hid (HB5.out.trans (hb6.mono HB5.out.size))
  have HP6 := Lib.hid ((HP5.out.below hb6).more hb6.size)
  have HQ6 := Lib.hid ((HQ5.out.below hb6).more hb6.size)
  clear b0 b1 b2 b3 b4 b5 b6 b7 b8 hb6
  have c0 := cells_at HY6.out 0 (u := .int .i64 (-1)) rfl
  have c1 := cells_at HY6.out 1 (u := .int .i64 0) rfl
  have c2 := cells_at HY6.out 2 (u := .int .i64 0) rfl
  have c3 := cells_at HY6.out 3 (u := .int .i64 (((headN kBytes n).length : Nat) : Int)) rfl
  have c4 := cells_at HY6.out 4 (u := .int .i64 (((laidN kBytes n s).length : Nat) : Int)) rfl
  have c5 := cells_at HY6.out 5 (u := .string (ba tBytes.kind)) rfl
  have c6 := cells_at HY6.out 6 (u := .string (ba tBytes.sub)) rfl
  have c7 := cells_at HY6.out 7 (u := .slice A2 m2 cp2) rfl
  have c8 := cells_at HY6.out 8 (u := .string (ba (codN n))) rfl
  go_wp2_with fail
  refine (HBYB.out _ A2 m2 cp2 HB6.out).mono ?_
  rintro e w7 ⟨rfl, hb7⟩
  have HX7 := Lib.hid ((hb7.block _ (heap_lt HX6.out)).trans HX6.out)
  have HY7 := Lib.hid ((hb7.block _ (heap_lt HY6.out)).trans HY6.out)
  have HB7 := Lib.hid (HB6.out.trans (hb7.mono HB6.out.size))
  have HP7 := Lib.hid ((HP6.out.below hb7).more hb7.size)
  have HQ7 := Lib.hid ((HQ6.out.below hb7).more hb7.size)
  clear c0 c1 c2 c3 c4 c5 c6 c7 c8 hb7
  have d0 := cells_at HY7.out 0 (u := .int .i64 (-1)) rfl
  have d1 := cells_at HY7.out 1 (u := .int .i64 0) rfl
  have d2 := cells_at HY7.out 2 (u := .int .i64 0) rfl
  have d3 := cells_at HY7.out 3 (u := .int .i64 (((headN kBytes n).length : Nat) : Int)) rfl
  have d4 := cells_at HY7.out 4 (u := .int .i64 (((laidN kBytes n s).length : Nat) : Int)) rfl
  have d5 := cells_at HY7.out 5 (u := .string (ba tBytes.kind)) rfl
  have d6 := cells_at HY7.out 6 (u := .string (ba tBytes.sub)) rfl
  have d7 := cells_at HY7.out 7 (u := .slice A2 m2 cp2) rfl
  have d8 := cells_at HY7.out 8 (u := .string (ba (codN n))) rfl
  go_wp2_with fail
  refine (HTXB.out _ A2 m2 cp2 HB7.out HQ7.out).mono ?_
  rintro e w8 ⟨rfl, hb8⟩
  have HX8 := Lib.hid ((hb8.block _ (heap_lt HX7.out)).trans HX7.out)
  have HY8 := Lib.hid ((hb8.block _ (heap_lt HY7.out)).trans HY7.out)
  have HB8 := Lib.hid (HB7.out.trans (hb8.mono HB7.out.size))
  have HP8 := Lib.hid ((HP7.out.below hb8).more hb8.size)
  have HQ8 := Lib.hid ((HQ7.out.below hb8).more hb8.size)
  clear d0 d1 d2 d3 d4 d5 d6 d7 d8 hb8
  have f0 := cells_at HY8.out 0 (u := .int .i64 (-1)) rfl
  have f1 := cells_at HY8.out 1 (u := .int .i64 0) rfl
  have f2 := cells_at HY8.out 2 (u := .int .i64 0) rfl
  have f3 := cells_at HY8.out 3 (u := .int .i64 (((headN kBytes n).length : Nat) : Int)) rfl
  have f4 := cells_at HY8.out 4 (u := .int .i64 (((laidN kBytes n s).length : Nat) : Int)) rfl
  have f5 := cells_at HY8.out 5 (u := .string (ba tBytes.kind)) rfl
  have f6 := cells_at HY8.out 6 (u := .string (ba tBytes.sub)) rfl
  have f7 := cells_at HY8.out 7 (u := .slice A2 m2 cp2) rfl
  have f8 := cells_at HY8.out 8 (u := .string (ba (codN n))) rfl
  go_wp2_with fail
  refine (HATB.out _ A2 m2 cp2 HB8.out HQ8.out).mono ?_
  rintro e w9 ⟨rfl, hb9⟩
  have HX9 := Lib.hid ((hb9.block _ (heap_lt HX8.out)).trans HX8.out)
  have HY9 := Lib.hid ((hb9.block _ (heap_lt HY8.out)).trans HY8.out)
  have HB9 := Lib.hid (HB8.out.trans (hb9.mono HB8.out.size))
  have HP9 := Lib.hid ((HP8.out.below hb9).more hb9.size)
  have HQ9 := Lib.hid ((HQ8.out.below hb9).more hb9.size)
  clear f0 f1 f2 f3 f4 f5 f6 f7 f8 hb9
  have g0 := cells_at HX9.out 0 (u := .int .i64 (-1)) rfl
  have g1 := cells_at HX9.out 1 (u := .int .i64 0) rfl
  have g2 := cells_at HX9.out 2 (u := .int .i64 0) rfl
  have g3 := cells_at HX9.out 3 (u := .int .i64 (((headN kPlain n).length : Nat) : Int)) rfl
  have g4 := cells_at HX9.out 4 (u := .int .i64 (((laidN kPlain n s).length : Nat) : Int)) rfl
  have g5 := cells_at HX9.out 5 (u := .string (ba tPlain.kind)) rfl
  have g6 := cells_at HX9.out 6 (u := .string (ba tPlain.sub)) rfl
  have g7 := cells_at HX9.out 7 (u := .slice A1 m1 cp1) rfl
  have g8 := cells_at HX9.out 8 (u := .string (ba (codN n))) rfl
  go_wp2_with fail
  refine (HATM.out _ A1 m1 cp1 HB9.out HP9.out).mono ?_
  rintro e w10 ⟨rfl, hb10⟩
  have HX10 := Lib.hid ((hb10.block _ (heap_lt HX9.out)).trans HX9.out)
  have HY10 := Lib.hid ((hb10.block _ (heap_lt HY9.out)).trans HY9.out)
  have HB10 := Lib.hid (HB9.out.trans (hb10.mono HB9.out.size))
  have HP10 := Lib.hid ((HP9.out.below hb10).more hb10.size)
  have HQ10 := Lib.hid ((HQ9.out.below hb10).more hb10.size)
  clear g0 g1 g2 g3 g4 g5 g6 g7 g8 hb10
  have k0 := cells_at HX10.out 0 (u := .int .i64 (-1)) rfl
  have k1 := cells_at HX10.out 1 (u := .int .i64 0) rfl
  have k2 := cells_at HX10.out 2 (u := .int .i64 0) rfl
  have k3 := cells_at HX10.out 3 (u := .int .i64 (((headN kPlain n).length : Nat) : Int)) rfl
  have k4 := cells_at HX10.out 4 (u := .int .i64 (((laidN kPlain n s).length : Nat) : Int)) rfl
  have k5 := cells_at HX10.out 5 (u := .string (ba tPlain.kind)) rfl
  have k6 := cells_at HX10.out 6 (u := .string (ba tPlain.sub)) rfl
  have k7 := cells_at HX10.out 7 (u := .slice A1 m1 cp1) rfl
  have k8 := cells_at HX10.out 8 (u := .string (ba (codN n))) rfl
  go_wp2_with fail
  refine (HTXM.out _ A1 m1 cp1 HB10.out HP10.out).mono ?_
  rintro e w11 ⟨rfl, hb11⟩
  have HX11 := Lib.hid ((hb11.block _ (heap_lt HX10.out)).trans HX10.out)
  have HY11 := Lib.hid ((hb11.block _ (heap_lt HY10.out)).trans HY10.out)
  have HB11 := Lib.hid (HB10.out.trans (hb11.mono HB10.out.size))
  have HP11 := Lib.hid ((HP10.out.below hb11).more hb11.size)
  have HQ11 := Lib.hid ((HQ10.out.below hb11).more hb11.size)
  clear k0 k1 k2 k3 k4 k5 k6 k7 k8 hb11
  go_wp2_with fail
  refine (HRP.out _ HB11.out).mono ?_
  rintro e w12 ⟨rfl, hb12⟩
  have HB12 := Lib.hid (HB11.out.trans (hb12.mono HB11.out.size))
  clear hb12
  go_wp2_with fail
  refine (HLN.out _).mono ?_
  rintro e w13 ⟨rfl, hb13⟩
  have HB13 := Lib.hid (HB12.out.trans (hb13.mono HB12.out.size))
  clear hb13
  go_wp2
  go_ret
  exact ⟨rfl, HB13.out⟩
end Go.Proofs.YthidbmeaccpjdaaGreatDoor
