/- Layer 34: the laws' example returns true. -/
import Derived.Test.YtfinpehbpcckaaaGreatDoorBuildZ
import Derived.Test.YtfinpehbpcckaaaGreatDoorM19
import Derived.Test.YtfinpehbpcckaaaGreatDoorM18
namespace Go.Proofs.YtfinpehbpcckaaaGreatDoor
open Go.RowKit
set_option linter.unusedVariables false

theorem cell_of {w : World} {g : Nat} {cs : Array Value} {t : TypeId} {r : Nat × Nat} (h : w.heap[g]? = some (.cells cs t r)) (i : Nat) {u : Value} (hu : cs[i]? = some u) : w.cell? ⟨g, i, none⟩ = some u := by
  unfold World.cell?
  simp only [h]
  simpa using hu
theorem small_ents (w : World) : Ents (w.alloc (.cells #[.int .i64 3, .int .i64 3, .string ⟨#[97, 32, 66, 45, 97]⟩, .int .i64 2, .int .i64 4, .string ⟨#[97, 98]⟩, .int .i64 3, .int .i64 3, .string ⟨#[99]⟩, .int .i64 0, .int .i64 1, .string ⟨#[100]⟩, .int .i64 5, .int .i64 2, .string ⟨#[]⟩] 40)) (w.heap.size + 1) (some ⟨w.heap.size, 0, none⟩) 5 smallE := by
  obtain ⟨W, hW⟩ : ∃ W, w.alloc (.cells #[.int .i64 3, .int .i64 3, .string ⟨#[97, 32, 66, 45, 97]⟩, .int .i64 2, .int .i64 4, .string ⟨#[97, 98]⟩, .int .i64 3, .int .i64 3, .string ⟨#[99]⟩, .int .i64 0, .int .i64 1, .string ⟨#[100]⟩, .int .i64 5, .int .i64 2, .string ⟨#[]⟩] 40) = W := ⟨_, rfl⟩
  have hb := (MapKept.heap_alloc w (.cells #[.int .i64 3, .int .i64 3, .string ⟨#[97, 32, 66, 45, 97]⟩, .int .i64 2, .int .i64 4, .string ⟨#[97, 98]⟩, .int .i64 3, .int .i64 3, .string ⟨#[99]⟩, .int .i64 0, .int .i64 1, .string ⟨#[100]⟩, .int .i64 5, .int .i64 2, .string ⟨#[]⟩] 40)).1
  rw [hW] at hb ⊢
  refine ⟨rfl, fun k hk => ?_⟩
  have hk5 : k < 5 := hk
  have fits : ∀ a b : Int, (-9223372036854775808 ≤ a ∧ a ≤ 9223372036854775807) → (-9223372036854775808 ≤ b ∧ b ≤ 9223372036854775807) → SpotFits (a, b) := fun a b ha hb => ⟨wf64 ha, wf64 hb⟩
  rcases (by omega : k = 0 ∨ k = 1 ∨ k = 2 ∨ k = 3 ∨ k = 4) with rfl | rfl | rfl | rfl | rfl
  · exact ⟨⟨w.heap.size, 0, none⟩, rfl, by rw [add_block]; exact Nat.lt_succ_self _, cell_of hb 0 rfl, cell_of hb 1 rfl, cell_of hb 2 rfl, fits 3 3 (by decide) (by decide)⟩
  · exact ⟨⟨w.heap.size, 0, none⟩, rfl, by rw [add_block]; exact Nat.lt_succ_self _, cell_of hb 3 rfl, cell_of hb 4 rfl, cell_of hb 5 rfl, fits 2 4 (by decide) (by decide)⟩
  · exact ⟨⟨w.heap.size, 0, none⟩, rfl, by rw [add_block]; exact Nat.lt_succ_self _, cell_of hb 6 rfl, cell_of hb 7 rfl, cell_of hb 8 rfl, fits 3 3 (by decide) (by decide)⟩
  · exact ⟨⟨w.heap.size, 0, none⟩, rfl, by rw [add_block]; exact Nat.lt_succ_self _, cell_of hb 9 rfl, cell_of hb 10 rfl, cell_of hb 11 rfl, fits 0 1 (by decide) (by decide)⟩
  · exact ⟨⟨w.heap.size, 0, none⟩, rfl, by rw [add_block]; exact Nat.lt_succ_self _, cell_of hb 12 rfl, cell_of hb 13 rfl, cell_of hb 14 rfl, fits 5 2 (by decide) (by decide)⟩
theorem add_zero' (a : Addr) : a.add 0 = a := by unfold Addr.add; rfl
/-- Two postings in memory, cell by cell. -/
theorem Posts.first {w : World} {B : Nat} {A : Option Addr} {n : Nat} {p : Post} {r : List Post} (h : Posts w B A n (p :: r)) : ∃ ad X c, A = some ad ∧ w.cell? ad = some (.int .i64 p.doc) ∧ w.cell? ⟨ad.block, ad.off + 1, none⟩ = some (.slice X p.places.length c) ∧ Ints w B X p.places.length p.places ∧ ad.block < B := by
  obtain ⟨ad, X, x, c, e, h1, h2, h3, h4, h5, h6, h7⟩ := h.2 0 (by simp)
  rw [Nat.zero_mul, add_zero'] at h1 h2 h3
  have hx := h7.len
  simp only [List.getElem_cons_zero] at h2 h7 hx
  rw [← hx] at h3 h7
  exact ⟨ad, X, c, e, h2, h3, h7, h1⟩
theorem few_small : EntsFew smallE := ⟨by unfold smallE; simp, fun e he => by
  unfold smallE at he
  simp only [List.mem_cons, List.not_mem_nil, or_false] at he
  rcases he with rfl | rfl | rfl | rfl | rfl <;> simp⟩
theorem none_few : SegFew Seg.none_ := ⟨Nat.zero_le _, Nat.zero_le _, fun t ht => by cases ht⟩
theorem two_few : SegFew ⟨[], [2, 2]⟩ := ⟨Nat.zero_le _, by simp, fun t ht => by cases ht⟩
theorem two_ints (w : World) : Ints (w.alloc (.cells #[.int .i64 2, .int .i64 2] 3)) (w.heap.size + 1) (some ⟨w.heap.size, 0, none⟩) 2 [2, 2] := by
  have hb := (MapKept.heap_alloc w (.cells #[.int .i64 2, .int .i64 2] 3)).1
  refine ⟨rfl, fun x hx => by simp at hx; omega, .inr ⟨_, rfl, Nat.lt_succ_self _, fun j u hu => ?_⟩⟩
  have hj : j < 2 := (List.getElem?_eq_some_iff.1 hu).1
  rcases (by omega : j = 0 ∨ j = 1) with rfl | rfl
  · have e : u = .int .i64 2 := (Option.some.inj hu).symm
    subst e
    exact cell_of hb 0 rfl
  · have e : u = .int .i64 2 := (Option.some.inj hu).symm
    subst e
    exact cell_of hb 1 rfl
set_option maxRecDepth 100000 in
set_option maxHeartbeats 4000000 in
theorem small_any (w : World) (ht : Tables w) : Calls Tryz.prog 9 #[] w fun e w' => e = .returned (.bool true) ∧ Below w.heap.size w w' := by
  have HT := Lib.hid ht
  have hz0 : (w.alloc (.cells #[.int .i64 3, .int .i64 3, .string ⟨#[97, 32, 66, 45, 97]⟩, .int .i64 2, .int .i64 4, .string ⟨#[97, 98]⟩, .int .i64 3, .int .i64 3, .string ⟨#[99]⟩, .int .i64 0, .int .i64 1, .string ⟨#[100]⟩, .int .i64 5, .int .i64 2, .string ⟨#[]⟩] 40)).heap.size = w.heap.size + 1 := by simp
  have hE := small_ents w
  have hB0 : Below w.heap.size w (w.alloc (.cells #[.int .i64 3, .int .i64 3, .string ⟨#[97, 32, 66, 45, 97]⟩, .int .i64 2, .int .i64 4, .string ⟨#[97, 98]⟩, .int .i64 3, .int .i64 3, .string ⟨#[99]⟩, .int .i64 0, .int .i64 1, .string ⟨#[100]⟩, .int .i64 5, .int .i64 2, .string ⟨#[]⟩] 40)) := (Below.refl _ _).alloc (Nat.le_refl _) _
  obtain ⟨W0, hW0⟩ : ∃ W, w.alloc (.cells #[.int .i64 3, .int .i64 3, .string ⟨#[97, 32, 66, 45, 97]⟩, .int .i64 2, .int .i64 4, .string ⟨#[97, 98]⟩, .int .i64 3, .int .i64 3, .string ⟨#[99]⟩, .int .i64 0, .int .i64 1, .string ⟨#[100]⟩, .int .i64 5, .int .i64 2, .string ⟨#[]⟩] 40) = W := ⟨_, rfl⟩
  rw [hW0] at hE hB0 hz0
  have HE := Lib.hid hE
  have HB0 := Lib.hid hB0
  have HZ0 := Lib.hid hz0
  clear ht hE hB0 hz0
  go_enter Tryz.func9, Tryz.ntmps9
  go_wp2_with fail
  refine (seg_build (some ⟨w.heap.size, 0, none⟩) 5 5 smallE W0 (by rw [HZ0.out]; exact HE.out) few_small (HT.out.below HB0.out)).mono ?_
  rintro e w1 ⟨hb1, A, n, c, D, m, d, s, rfl, hS, hBt⟩
  rw [small_used] at hBt
  obtain rfl : s = smallS := hBt.unique small_built
  obtain rfl : n = 3 := hS.terms.len.symm
  obtain rfl : m = 3 := hS.docs.len.symm
  have hB1 : Below w.heap.size w w1 := HB0.out.trans (hb1.mono (by have := HZ0.out; omega))
  have g0 : (w1.alloc (.cells #[.slice A 3 c, .slice D 3 d] 28)).cell? ⟨w1.heap.size, 0, none⟩ = some (.slice A 3 c) := by go_simp
  have g1 : (w1.alloc (.cells #[.slice A 3 c, .slice D 3 d] 28)).cell? ⟨w1.heap.size, 1, none⟩ = some (.slice D 3 d) := by go_simp
  have hzb : (w1.alloc (.cells #[.slice A 3 c, .slice D 3 d] 28)).heap.size = w1.heap.size + 1 := by simp
  have hbb : Below w1.heap.size w1 (w1.alloc (.cells #[.slice A 3 c, .slice D 3 d] 28)) := (Below.refl _ _).alloc (Nat.le_refl _) _
  obtain ⟨gb, hgb⟩ : ∃ gb, w1.heap.size = gb := ⟨_, rfl⟩
  have HS := Lib.hid (hS.below hbb)
  have HB1 := Lib.hid (hB1.trans (hbb.mono hB1.size))
  obtain ⟨W1, hW1⟩ : ∃ W, w1.alloc (.cells #[.slice A 3 c, .slice D 3 d] 28) = W := ⟨_, rfl⟩
  rw [hW1] at g0 g1 hzb HS HB1
  rw [hgb] at g0 g1 hzb HS
  have HZB := Lib.hid hzb
  clear hb1 hS hBt hB1 hbb hW0 hzb
  go_wp2_with fail
  refine (seg_look A D 3 c 3 d smallS 0 [97] W1 (HS.out.more (by have := HZB.out; omega)) small_few (HT.out.below HB1.out)).mono ?_
  rintro e w2 ⟨va, pa, rfl, hown, hps, hb2⟩
  rw [small_look1] at hps
  obtain ⟨Aa, ca, rfl, -, -, hPa⟩ := hown.posts
  rw [hps] at hPa
  have hla : pa.length = 1 := by have := congrArg List.length hps; simpa using this
  rw [hla] at hPa ⊢
  have HB2 := Lib.hid hb2
  have HPA := Lib.hid hPa
  have h2z : gb + 1 ≤ w2.heap.size := by have := hb2.size; have := HZB.out; omega
  have g0a : w2.cell? ⟨gb, 0, none⟩ = some (.slice A 3 c) := (hb2.cell (p := ⟨gb, 0, none⟩) (by have := HZB.out; show gb < _; omega)).trans g0
  have g1a : w2.cell? ⟨gb, 1, none⟩ = some (.slice D 3 d) := (hb2.cell (p := ⟨gb, 1, none⟩) (by have := HZB.out; show gb < _; omega)).trans g1
  have HB02 := Lib.hid (HB1.out.trans (hb2.mono HB1.out.size))
  have HS2 := Lib.hid (HS.out.below (hb2.mono (by have := HZB.out; omega)))
  clear hown hps hPa hla hb2 pa g0 g1
  go_wp2_with fail
  refine (seg_look A D 3 c 3 d smallS 4 [97] w2 (HS2.out.more (by omega)) small_few (HT.out.below HB02.out)).mono ?_
  rintro e w3 ⟨vb, pb, rfl, hown, hps, hb3⟩
  rw [small_look2] at hps
  obtain ⟨Ab, cb, rfl, -, -, -⟩ := hown.posts
  have hlb : pb.length = 0 := by have := congrArg List.length hps; simpa using this
  rw [hlb]
  have HPA3 := Lib.hid (HPA.out.below hb3)
  have h3z : gb + 1 ≤ w3.heap.size := by have := hb3.size; omega
  have g0b : w3.cell? ⟨gb, 0, none⟩ = some (.slice A 3 c) := (hb3.cell (p := ⟨gb, 0, none⟩) (by show gb < _; omega)).trans g0a
  have g1b : w3.cell? ⟨gb, 1, none⟩ = some (.slice D 3 d) := (hb3.cell (p := ⟨gb, 1, none⟩) (by show gb < _; omega)).trans g1a
  have HB03 := Lib.hid (HB02.out.trans (hb3.mono HB02.out.size))
  have HS3 := Lib.hid (HS2.out.below (hb3.mono (by omega)))
  have h23 := hb3.size
  clear hown hps hlb hb3 pb g0a g1a HPA
  go_wp2_with fail
  refine (seg_pref A D 3 c 3 d smallS 0 [97] w3 (HS3.out.more (by omega)) small_few (HT.out.below HB03.out)).mono ?_
  rintro e w4 ⟨vp, pp, rfl, hown, hps, hb4⟩
  rw [small_pref] at hps
  obtain ⟨Ap, cp, rfl, -, -, hPp⟩ := hown.posts
  rw [hps] at hPp
  have hlp : pp.length = 2 := by have := congrArg List.length hps; simpa using this
  rw [hlp] at hPp ⊢
  have HPP := Lib.hid hPp
  have HPA4 := Lib.hid (HPA3.out.below (hb4.mono h23))
  have h4z : gb + 1 ≤ w4.heap.size := by have := hb4.size; omega
  have g0c : w4.cell? ⟨gb, 0, none⟩ = some (.slice A 3 c) := (hb4.cell (p := ⟨gb, 0, none⟩) (by show gb < _; omega)).trans g0b
  have g1c : w4.cell? ⟨gb, 1, none⟩ = some (.slice D 3 d) := (hb4.cell (p := ⟨gb, 1, none⟩) (by show gb < _; omega)).trans g1b
  have HB04 := Lib.hid (HB03.out.trans (hb4.mono HB03.out.size))
  have HS4 := Lib.hid (HS3.out.below (hb4.mono (by omega)))
  have h34 := hb4.size
  clear hown hps hPp hlp hb4 pp g0b g1b HPA3
  go_wp2_with fail
  refine (seg_bytes A D 3 c 3 d smallS w4 (HS4.out.more (by omega)) small_few (HT.out.below HB04.out)).mono ?_
  rintro e w5 ⟨rfl, hb5⟩
  have HB05 := Lib.hid (HB04.out.trans (hb5.mono HB04.out.size))
  have HB5 := Lib.hid hb5
  have h45 := hb5.size
  have HREAD := Lib.hid (seg_read (bytesP smallS) w5 (by have := small_built.bytes small_goods small_efew; omega) (by rw [read_raw small_right small_few]; exact small_few) (HT.out.below HB05.out))
  obtain ⟨BS, hBS⟩ : ∃ q, ba (bytesP smallS) = q := ⟨_, rfl⟩
  rw [hBS] at HREAD ⊢
  clear hb5 hBS
  go_wp2_with fail
  refine HREAD.out.mono ?_
  rintro e w6 ⟨hb6, A6, n6, c6, D6, m6, d6, rfl, hS6⟩
  rw [small_read] at hS6 ⊢
  obtain rfl : n6 = 3 := hS6.terms.len.symm
  obtain rfl : m6 = 3 := hS6.docs.len.symm
  have hB6 : Below w.heap.size w w6 := HB05.out.trans (hb6.mono HB05.out.size)
  have r0 : (w6.alloc (.cells #[.slice A6 3 c6, .slice D6 3 d6] 28)).cell? ⟨w6.heap.size, 0, none⟩ = some (.slice A6 3 c6) := by go_simp
  have r1 : (w6.alloc (.cells #[.slice A6 3 c6, .slice D6 3 d6] 28)).cell? ⟨w6.heap.size, 1, none⟩ = some (.slice D6 3 d6) := by go_simp
  have hzr : (w6.alloc (.cells #[.slice A6 3 c6, .slice D6 3 d6] 28)).heap.size = w6.heap.size + 1 := by simp
  have hbr : Below w6.heap.size w6 (w6.alloc (.cells #[.slice A6 3 c6, .slice D6 3 d6] 28)) := (Below.refl _ _).alloc (Nat.le_refl _) _
  obtain ⟨W6, hW6⟩ : ∃ W, w6.alloc (.cells #[.slice A6 3 c6, .slice D6 3 d6] 28) = W := ⟨_, rfl⟩
  obtain ⟨rb, hrb⟩ : ∃ rb, w6.heap.size = rb := ⟨_, rfl⟩
  have HS6 := Lib.hid (hS6.below hbr)
  have h56 := hb6.size
  have HB46 := Lib.hid (HB5.out.trans ((hb6.trans (hbr.mono hb6.size)).mono h45))
  have HB06 := Lib.hid (hB6.trans (hbr.mono hB6.size))
  rw [hW6] at r0 r1 hzr HS6 HB46 HB06
  rw [hrb] at r0 r1 hzr HS6
  have HZR := Lib.hid hzr
  have hrb2 : w5.heap.size ≤ rb := by omega
  have HNO := Lib.hid (seg_read [0] W6 (by simp) (raw_few [0] (by simp)) (HT.out.below HB06.out))
  have h46 := HB46.out.size
  clear hb6 hS6 hB6 hbr hzr HREAD HB5 HB05 h56
  go_wp2_with fail
  refine HNO.out.mono ?_
  rintro e w7 ⟨hb7, A7, n7, c7, D7, m7, d7, rfl, hS7⟩
  rw [small_no] at hS7 ⊢
  obtain rfl : n7 = 0 := hS7.terms.len.symm
  obtain rfl : m7 = 0 := hS7.docs.len.symm
  have hb8 : Below W6.heap.size W6 (w7.alloc (.cells #[.slice A7 0 c7, .slice D7 0 d7] 28)) := hb7.alloc hb7.size _
  obtain ⟨W8, hW8⟩ : ∃ W, w7.alloc (.cells #[.slice A7 0 c7, .slice D7 0 d7] 28) = W := ⟨_, rfl⟩
  obtain ⟨nb, hnb⟩ : ∃ nb, w7.heap.size = nb := ⟨_, rfl⟩
  rw [hW8] at hb8
  have h8z : W6.heap.size ≤ W8.heap.size := hb8.size
  have hb48 : Below w4.heap.size w4 W8 := HB46.out.trans (hb8.mono h46)
  have HB08 := Lib.hid (HB06.out.trans (hb8.mono HB06.out.size))
  have g0d : W8.cell? ⟨gb, 0, none⟩ = some (.slice A 3 c) := (hb48.cell (p := ⟨gb, 0, none⟩) (by show gb < _; omega)).trans g0c
  have g1d : W8.cell? ⟨gb, 1, none⟩ = some (.slice D 3 d) := (hb48.cell (p := ⟨gb, 1, none⟩) (by show gb < _; omega)).trans g1c
  have r0d : W8.cell? ⟨rb, 0, none⟩ = some (.slice A6 3 c6) := (hb8.cell (p := ⟨rb, 0, none⟩) (by have := HZR.out; show rb < _; omega)).trans r0
  have r1d : W8.cell? ⟨rb, 1, none⟩ = some (.slice D6 3 d6) := (hb8.cell (p := ⟨rb, 1, none⟩) (by have := HZR.out; show rb < _; omega)).trans r1
  have hS8 := HS4.out.below (hb48.mono (by omega))
  have hR8 := HS6.out.below (hb8.mono (by have := HZR.out; omega))
  have hPA8 := HPA4.out.below (hb48.mono (by omega))
  have hPP8 := HPP.out.below hb48
  obtain ⟨pa0, Xa, xca, rfl, a0, a1, hXa, -⟩ := hPA8.first
  obtain ⟨aa, rfl, -, xa0⟩ := hXa.at_ (k := 0) (by decide)
  obtain ⟨_, e, -, xa1⟩ := hXa.at_ (k := 1) (by decide)
  injection e with e
  subst e
  obtain ⟨pp0, X, x, cx, rfl, -, p0, -, -, -, -, -⟩ := hPP8.2 0 (by simp)
  obtain ⟨_, X', x', cx', e, -, p1, -, -, -, -, -⟩ := hPP8.2 1 (by simp)
  injection e with e
  subst e
  obtain ⟨da, rfl, -, d0⟩ := hS8.docs.at_ (k := 0) (by decide)
  obtain ⟨_, e, -, d2⟩ := hS8.docs.at_ (k := 2) (by decide)
  injection e with e
  subst e
  obtain ⟨ta, rfl, -, t0a, t0b, -⟩ := hS8.terms.at_ (k := 0) (by decide)
  obtain ⟨_, e, -, t1a, t1b, -⟩ := hS8.terms.at_ (k := 1) (by decide)
  injection e with e
  subst e
  obtain ⟨_, e, -, t2a, t2b, -⟩ := hS8.terms.at_ (k := 2) (by decide)
  injection e with e
  subst e
  rw [Nat.zero_mul, add_zero'] at p0 t0a t0b
  rw [add_zero'] at d0 xa0
  have t0a' : W8.cell? ta = some (.int .i64 3) := t0a
  have t0b' : W8.cell? ⟨ta.block, ta.off + 1, none⟩ = some (.string ⟨#[97]⟩) := t0b
  have t1b' : W8.cell? ⟨ta.block, ta.off + 3 + 1, none⟩ = some (.string ⟨#[98]⟩) := t1b
  have t2a' : W8.cell? ⟨ta.block, ta.off + 6, none⟩ = some (.int .i64 4) := t2a
  have t2b' : W8.cell? ⟨ta.block, ta.off + 6 + 1, none⟩ = some (.string ⟨#[97, 98]⟩) := t2b
  have d0' : W8.cell? da = some (.int .i64 2) := d0
  have d2' : W8.cell? ⟨da.block, da.off + 2, none⟩ = some (.int .i64 5) := d2
  have p0' : W8.cell? pp0 = some (.int .i64 2) := p0
  have p1' : W8.cell? ⟨pp0.block, pp0.off + 2, none⟩ = some (.int .i64 3) := p1
  have xa0' : W8.cell? aa = some (.int .i64 0) := xa0
  have xa1' : W8.cell? ⟨aa.block, aa.off + 1, none⟩ = some (.int .i64 2) := xa1
  have a0' : W8.cell? pa0 = some (.int .i64 3) := a0
  have a1' : W8.cell? ⟨pa0.block, pa0.off + 1, none⟩ = some (.slice (some aa) 2 xca) := a1
  have HSAME := Lib.hid (seg_same (some aa) none none none 0 0 0 0 0 0 0 0 Seg.none_ Seg.none_ W8)
  have HS8 := Lib.hid hS8
  have HR8 := Lib.hid hR8
  have HT8 := Lib.hid (HT.out.below HB08.out)
  clear hS8 hR8 hPA8 hPP8 hXa a0 a1 xa0 xa1 p0 p1 d0 d2 t0a t0b t1a t1b t2a t2b hb7 hb8 hb48 hS7 g0c g1c r0 r1 HSAME
  go_wp2_with fail
  refine (seg_same A6 D6 (some ta) (some da) 3 c6 3 d6 3 c 3 d smallS smallS W8 (HR8.out.more (by have := HZR.out; omega)) (HS8.out.more (by omega))).mono ?_
  rintro e w9 ⟨rfl, hb9⟩
  have HDT := Lib.hid (show decide (smallS = smallS) = true from decide_eq_true rfl)
  rw [HDT.out]
  have HB9 := Lib.hid hb9
  have HB09 := Lib.hid (HB08.out.trans (hb9.mono HB08.out.size))
  have g0e : w9.cell? ⟨gb, 0, none⟩ = some (.slice (some ta) 3 c) := (hb9.cell (p := ⟨gb, 0, none⟩) (by show gb < _; omega)).trans g0d
  have g1e : w9.cell? ⟨gb, 1, none⟩ = some (.slice (some da) 3 d) := (hb9.cell (p := ⟨gb, 1, none⟩) (by show gb < _; omega)).trans g1d
  have HS9 := Lib.hid (HS8.out.below (hb9.mono (by omega)))
  have h89 := hb9.size
  clear hb9 g0d g1d t0a' t0b' t1b' t2a' t2b' d0' d2' p0' p1' xa0' xa1' a0' a1' r0d r1d
  go_wp2_with fail
  refine (seg_right (some ta) (some da) 3 c 3 d smallS w9 (HS9.out.more (by omega)) small_few (HT.out.below HB09.out)).mono ?_
  rintro e w10 ⟨rfl, hb10⟩
  rw [small_right]
  have HB010 := Lib.hid (HB09.out.trans (hb10.mono HB09.out.size))
  clear hb10 g0e g1e
  go_wp2_with fail
  refine (seg_right none none 0 0 0 0 Seg.none_ w10 (SegIn.nil_ _ _) none_few (HT.out.below HB010.out)).mono ?_
  rintro e w11 ⟨rfl, hb11⟩
  rw [none_right]
  have HB011 := Lib.hid (HB010.out.trans (hb11.mono HB010.out.size))
  clear hb11
  go_wp2_with fail
  refine (seg_bytes none none 0 0 0 0 Seg.none_ w11 (SegIn.nil_ _ _) none_few (HT.out.below HB011.out)).mono ?_
  rintro e w12 ⟨rfl, hb12⟩
  rw [none_bytes]
  have HB012 := Lib.hid (HB011.out.trans (hb12.mono HB011.out.size))
  have HTWO := Lib.hid (two_ints w12)
  have HB13 := Lib.hid (show Below w.heap.size w (w12.alloc (.cells #[.int .i64 2, .int .i64 2] 3)) from HB012.out.alloc HB012.out.size _)
  have hz13 : (w12.alloc (.cells #[.int .i64 2, .int .i64 2] 3)).heap.size = w12.heap.size + 1 := by simp
  have HZ13 := Lib.hid hz13
  clear hb12 hz13
  have hba : ba [0, 0] = ⟨#[0, 0]⟩ := rfl
  rw [hba]
  clear hba
  go_wp2_with fail
  refine (seg_right none (some ⟨w12.heap.size, 0, none⟩) 0 0 2 2 ⟨[], [2, 2]⟩ _ ⟨Trms.nil_, Nat.le_refl _, by simp, by rw [HZ13.out]; exact HTWO.out, Nat.le_refl _, by simp only [maxLen]; omega⟩ two_few (HT.out.below HB13.out)).mono ?_
  rintro e w14 ⟨rfl, hb14⟩
  rw [two_right]
  have HB014 := Lib.hid (HB13.out.trans (hb14.mono HB13.out.size))
  clear hb14
  go_wp2
  go_ret
  exact ⟨rfl, HB014.out⟩
end Go.Proofs.YtfinpehbpcckaaaGreatDoor
