/- Layer 6: the contract of B64 (printed by gen_b64. -/
import Derived.Laws.CopyOwn
import Derived.Test.YthidbmeaccpjdaaGreatDoorM33
namespace Go.Proofs.YthidbmeaccpjdaaGreatDoor
open Go.RowKit
set_option linter.unusedVariables false
set_option maxHeartbeats 4000000
structure E6Rel (w : World) (L r : List UInt8) (wr : World) : Prop where
 ex : ∃ acc k, PutSt w.heap.size acc k wr ∧ acc ++ wrapP k (b64Q r) = b64P L ∧ acc.length ≤ 3 * k ∧ k + 4 * r.length ≤ 4 * L.length
 bel : Below w.heap.size w wr
structure E6In (w : World) (Q T S : List UInt8) (bd j : Nat) (wr : World) : Prop where
 ex : ∃ acc k, PutSt w.heap.size acc k wr ∧ acc ++ wrapP k (Q.drop j ++ T) = S ∧ acc.length ≤ 3 * k ∧ k + (4 - j) ≤ bd
 bel : Below w.heap.size w wr
theorem E6In.next {w wr w2 : World} {Q T S acc : List UInt8} {bd j k : Nat} {c : UInt8} (hj : j < 4) (hQ : Q.drop j = c :: Q.drop (j + 1)) (ha : acc ++ wrapP k (Q.drop j ++ T) = S) (hl : acc.length ≤ 3 * k) (hb : k + (4 - j) ≤ bd)
  {tl : List UInt8} (htl : (if (k + 1) % 76 = 0 then [13, 10] else []) = tl) (hp : PutSt w.heap.size (acc ++ c :: tl) (k + 1) w2) (hbel : Below w.heap.size w w2) : E6In w Q T S bd (j + 1) w2 := by
 rw [hQ] at ha
 have h1 : wrapP k ((c :: Q.drop (j + 1)) ++ T) = c :: (tl ++ wrapP (k + 1) (Q.drop (j + 1) ++ T)) := by
  rw [← htl]
  rfl
 rw [h1] at ha
 have h2 : tl.length ≤ 2 := by rw [← htl]; split <;> simp
 refine ⟨⟨acc ++ c :: tl, k + 1, hp, ?_, ?_, by omega⟩, hbel⟩
 ·rw [← ha]; simp
 ·rw [List.length_append, List.length_cons]; omega
theorem and63 {x : Int} (h0 : 0 ≤ x) (h1 : x < 1073741824) : bits BinOp.and IntKind.i64 x 63 = x % 64 :=
 bits_mask .i64 30 (by decide) (fun n h0 h1 => by simp [IntKind.wrap, IntKind.bits, IntKind.signed]; omega) 6 (by decide) x h0 h1
set_option maxRecDepth 100000 in
theorem b64_any (l : List UInt8) (w : World) (hl : l.length ≤ 100000000) :
  Calls Tryz.prog 60 #[.string (ba l)] w (StrB w (b64P l)) := by
 have HB0 := Lib.hid (bld_new w)
 have HL := Lib.hid hl
 obtain ⟨L, hL⟩ : ∃ L, l = L := ⟨_, rfl⟩
 have HREL := Lib.hid (show ∀ wr, wr = (w.alloc (.cells #[.pointer none, .slice none 0 0] 64)).alloc (.cells #[.int .i64 0] 3) → E6Rel w l l wr from by
  rintro wr rfl
  refine ⟨⟨[], 0, ⟨HB0.out.alloc _, ?_⟩, rfl, Nat.le_refl _, by simp⟩, ((Below.refl _ _).alloc (Nat.le_refl _) _).alloc (by simp) _⟩
  have h := (MapKept.heap_alloc (w.alloc (.cells #[.pointer none, .slice none 0 0] 64)) (.cells #[.int .i64 0] 3)).1
  rw [World.size_alloc] at h
  exact h)
 clear hl
 rw [hL]
 rw [hL] at HREL HL
 clear hL HB0
 go_enter Tryz.func60, Tryz.ntmps60
 go_wp2
 go_loopw [0, 6, 7, 8, 9] (fun s a b c d wr => ∃ (r : List UInt8) (y1 y2 y3 y4 : Value), a = y1 ∧ b = y2 ∧ c = y3 ∧ d = y4 ∧ s = .string (ba r) ∧ Hid (E6Rel w L r wr)) (fun s _ _ _ _ _ => Lib.strSize s)
 case atStart => exact ⟨L, _, _, _, _, rfl, rfl, rfl, rfl, rfl, Lib.hid (HREL.out _ rfl)⟩
 case round =>
  obtain ⟨r, y1, y2, y3, y4, rfl, rfl, rfl, rfl, rfl, HR⟩ := hrel
  obtain ⟨acc, k, hput, heq, hal, hkl⟩ := HR.out.ex
  have HPT := Lib.hid hput
  have HEQ := Lib.hid heq
  have HBE := Lib.hid HR.out.bel
  have hszr := HR.out.bel.size
  have hk8 : k ≤ 400000000 := by have := HL.out; omega
  have HKL := Lib.hid hkl
  have HAL := Lib.hid hal
  have hNr : w.heap.size + 1 < wr.heap.size := heap_lt hput.box
  clear hput heq hal hkl HR
  by_cases hne : r = []
  ·subst hne
   have g1 : (ba ([] : List UInt8)).toList.isEmpty = true := by rw [ba_toList]; rfl
   have g2 : ((ba ([] : List UInt8)).toList != []) = false := by rw [ba_toList]; rfl
   have c0 := cells_at HPT.out.box 0 (u := .int .i64 (k : Int)) rfl
   have hk0 : (0 : Int) ≤ (k : Int) := by omega
   have hkI : (k : Int) ≤ 400000000 := by omega
   by_cases hm : k % 76 = 0
   ·have hmi : ((k : Int) % 76 == 0) = true := by simp; omega
    have hmj : ((k : Int) % 76 != 0) = false := by simp; omega
    have HV := Lib.hid (show acc = b64P L by rw [← HEQ.out, show b64Q [] = [] from rfl]; unfold wrapP; rw [if_neg (by simp [hm]), List.append_nil])
    clear hm
    go_wp2_with fail
    refine (bld_string _ _ _ wr HPT.out.bld hszr).mono ?_
    rintro e v2 ⟨rfl, hW⟩
    have HW := Lib.hid hW
    clear hW
    go_wp2
    go_ret
    exact str_fin (by rw [HV.out]) (HBE.out.trans HW.out.bel)
   ·have hmi : ((k : Int) % 76 == 0) = false := by simp; omega
    have hmj : ((k : Int) % 76 != 0) = true := by simp; omega
    have HV := Lib.hid (show acc ++ [13, 10] = b64P L by rw [← HEQ.out, show b64Q [] = [] from rfl]; unfold wrapP; rw [if_pos hm])
    have HW1 := Lib.hid (show Calls Tryz.prog 54 #[.pointer (some ⟨w.heap.size, 0, none⟩), .string ⟨#[13, 10]⟩] wr (WrotePost wr w.heap.size w.heap.size (acc ++ [13, 10]) (.tuple #[.int .i64 2, .nilIface])) from write_string _ _ acc [13, 10] wr HPT.out.bld (by have := HAL.out; simp; omega) hszr)
    clear hm
    go_wp2_with fail
    refine HW1.out.mono ?_
    rintro e v2 ⟨rfl, hW⟩
    have HW := Lib.hid hW
    have HB2 := Lib.hid (HBE.out.trans hW.bel)
    clear hW
    go_wp2_with fail
    refine (bld_string _ _ _ v2 HW.out.bld HB2.out.size).mono ?_
    rintro e v3 ⟨rfl, hW⟩
    have HW3 := Lib.hid hW
    clear hW
    go_wp2
    go_ret
    exact str_fin (by rw [HV.out]) (HB2.out.trans HW3.out.bel)
  have g1 : (ba r).toList.isEmpty = false := by rw [ba_toList]; cases r with | nil => exact absurd rfl hne | cons c r => rfl
  have g2 : ((ba r).toList != []) = true := by rw [ba_toList]; simpa using hne
  have HRP := Lib.hid (List.length_pos_iff.2 hne)
  obtain ⟨K, hK⟩ : ∃ K, min 3 r.length = K := ⟨_, rfl⟩
  have hK1 : 1 ≤ K := by have := HRP.out; omega
  have hK3 : K ≤ 3 := by omega
  obtain ⟨a, ha⟩ : ∃ a, r.getD 0 0 = a := ⟨_, rfl⟩
  obtain ⟨b, hb⟩ : ∃ a, r.getD 1 0 = a := ⟨_, rfl⟩
  obtain ⟨c, hc⟩ : ∃ a, r.getD 2 0 = a := ⟨_, rfl⟩
  have HQS := Lib.hid (show b64Q r = quadK (triV a b c) K ++ b64Q (r.drop 3) by rw [b64_step hne, hK, ha, hb, hc])
  have hct := copy_three hne
  rw [hK, ha, hb, hc] at hct
  obtain ⟨W1, hW1⟩ : ∃ W, wr.alloc (.cells #[.int .u8 0, .int .u8 0, .int .u8 0] 122) = W := ⟨_, rfl⟩
  have hx1 := (MapKept.heap_alloc wr (.cells #[.int .u8 0, .int .u8 0, .int .u8 0] 122)).1
  rw [hW1] at hx1
  have hcp := run_copy_row_cut (P := Tryz.prog) W1 62 9 3 5 wr.heap.size 0 3 3 K (ba r) #[.int .u8 0, .int .u8 0, .int .u8 0] 122 Tryz.underlying62 (by kernel_rfl) hx1 (by rw [ba_size]; show min r.length 3 = K; rw [Nat.min_comm]; exact hK) (by simpa using hK3)
  rw [hct] at hcp
  obtain ⟨W2, hW2⟩ : ∃ W, W1.setRow wr.heap.size #[.int .u8 (a.toNat : Int), .int .u8 (b.toNat : Int), .int .u8 (c.toNat : Int)] = W := ⟨_, rfl⟩
  rw [hW2] at hcp
  have hx2 : W2.heap[wr.heap.size]? = some (.cells #[.int .u8 (a.toNat : Int), .int .u8 (b.toNat : Int), .int .u8 (c.toNat : Int)] 122 (0, 0)) := by rw [← hW2]; exact setRow_heap W1 wr.heap.size _ _ _ _ hx1
  have HBW := Lib.hid (show Below wr.heap.size wr W2 by rw [← hW2, ← hW1]; exact below_setRow ((Below.refl _ _).alloc (Nat.le_refl _) _) (Nat.le_refl _) _)
  have HBB := Lib.hid (HBE.out.trans (HBW.out.mono hszr))
  have HP2 := Lib.hid (show PutSt w.heap.size acc k W2 from ⟨HPT.out.bld.below HBW.out, (HBW.out.block _ (heap_lt HPT.out.box)).trans HPT.out.box⟩)
  obtain ⟨x, hx⟩ : ∃ x : Int, (a.toNat : Int) = x := ⟨_, rfl⟩
  obtain ⟨y, hy⟩ : ∃ x : Int, (b.toNat : Int) = x := ⟨_, rfl⟩
  obtain ⟨z, hz⟩ : ∃ x : Int, (c.toNat : Int) = x := ⟨_, rfl⟩
  rw [hx, hy, hz] at hx2
  have hx0 : 0 ≤ x := by omega
  have hxb : x ≤ 255 := by have := a.toNat_lt; omega
  have hy0 : 0 ≤ y := by omega
  have hyb : y ≤ 255 := by have := b.toNat_lt; omega
  have hz0 : 0 ≤ z := by omega
  have hzb : z ≤ 255 := by have := c.toNat_lt; omega
  have c0 := cells_at hx2 0 (u := .int .u8 x) rfl
  have c1 := cells_at hx2 1 (u := .int .u8 y) rfl
  have c2 := cells_at hx2 2 (u := .int .u8 z) rfl
  have ho1 := or16 hx0 (by omega : x < 256) hy0 (by omega : y < 256)
  have ho2 : bits BinOp.or IntKind.i64 (x * 65536 + y * 256) z = x * 65536 + y * 256 + z := by
   have h := or8 (a := x * 256 + y) (b := z) (by omega) (by omega) hz0 (by omega)
   rw [show (x * 256 + y) * 256 = x * 65536 + y * 256 by omega] at h
   exact h
  obtain ⟨V, hV⟩ : ∃ V, triV a b c = V := ⟨_, rfl⟩
  have hVI : x * 65536 + y * 256 + z = (V : Int) := by rw [← hV, ← hx, ← hy, ← hz]; unfold triV; omega
  have hVb : V < 16777216 := by have := a.toNat_lt; have := b.toNat_lt; have := c.toNat_lt; rw [← hV]; unfold triV; omega
  rw [hV] at HQS
  obtain ⟨Q, hQ⟩ : ∃ Q, quadK V K = Q := ⟨_, rfl⟩
  have hQl := hQ
  have HQA := Lib.hid (fun j (hj : j < 4) => quadK_at V K j hK1 hK3 hj)
  rw [hQ] at HQS HQA
  have HIN0 := Lib.hid (show E6In w Q (b64Q (r.drop 3)) (b64P L) (k + 4) 0 W2 from ⟨⟨acc, k, HP2.out, by rw [List.drop_zero, ← HQS.out]; exact HEQ.out, HAL.out, by omega⟩, HBB.out⟩)
  have HW1 := Lib.hid hW1
  have hKI : (K : Int) ≤ 3 := by omega
  have hK0 : (0 : Int) ≤ (K : Int) := by omega
  clear hx hy hz hV hQ hx1 hx2 hW1 hW2 ha hb hc hct hK
  go_wp2_with fail
  rw [HW1.out, hcp]
  go_wp2_with fail
  have hVI0 : (0 : Int) ≤ (V : Int) := by omega
  have hVIb : (V : Int) < 16777216 := by omega
  have HTL := Lib.hid (show (∀ wz, E6In w Q (b64Q (r.drop 3)) (b64P L) (k + 4) 4 wz → E6Rel w L (r.drop 3) wz) from fun wz h => by
   obtain ⟨acc2, k2, h1, h2, h3, h4⟩ := h.ex
   have hq4 : Q.drop 4 = [] := List.drop_eq_nil_of_le (by rw [← hQl]; exact Nat.le_of_eq (quadK_len V K hK3))
   rw [hq4, List.nil_append] at h2
   have h5 := HKL.out
   have h6 := HRP.out
   exact ⟨⟨acc2, k2, h1, h2, h3, by rw [List.length_drop]; omega⟩, h.bel⟩)
  clear c0 c1 c2 ho1 ho2 hcp hVI hx0 hxb hy0 hyb hz0 hzb hQl
  go_loopw [9, 34] (fun i t wq => ∃ (j : Nat) (q : Value), j ≤ 4 ∧ i = q ∧ t = .int .i64 (j : Int) ∧ Hid (E6In w Q (b64Q (r.drop 3)) (b64P L) (k + 4) j wq)) (fun _ t _ => 4 - (intOf t).toNat)
  case atStart => exact ⟨0, _, by omega, rfl, rfl, HIN0⟩
  case round =>
   obtain ⟨j, q, hj, rfl, rfl, HI⟩ := hrel
   by_cases hj4 : j < 4
   ·obtain ⟨acc2, k2, hp2, he2, hl2, hb2⟩ := HI.out.ex
    have HP := Lib.hid hp2
    have HE2 := Lib.hid he2
    have HL2 := Lib.hid hl2
    have HBD2 := Lib.hid hb2
    have HBL2 := Lib.hid HI.out.bel
    have hk2 : k2 ≤ 400000004 := by omega
    have ha2 : acc2.length ≤ 2000000000 := by omega
    clear hp2 he2 hl2 hb2 HI
    obtain ⟨tl, htl⟩ : ∃ t, (if (k2 + 1) % 76 = 0 then [13, 10] else ([] : List UInt8)) = t := ⟨_, rfl⟩
    have HTT := Lib.hid htl
    have HPA := Lib.hid (fun c => put_any w.heap.size k2 acc2 tl c _ HP.out (by omega) (by omega) htl)
    unfold PutPost at HPA
    clear htl
    rcases (show j = 0 ∨ j = 1 ∨ j = 2 ∨ j = 3 by omega) with rfl | rfl | rfl | rfl
    ·by_cases hkj : K < 0
     ·have HQJ := Lib.hid (show Q.drop 0 = 61 :: Q.drop (0 + 1) by rw [HQA.out 0 (by omega), if_pos hkj])
      have hkI : (K : Int) < 0 := by omega
      have HPB := Lib.hid (HPA.out 61)
      clear hkj HPA
      go_wp2_with fail
      refine HPB.out.mono ?_
      rintro e w5 ⟨v5, rfl, hs5, hb5, -⟩
      have HN := Lib.hid (E6In.next (wr := wr) (by omega : 0 < 4) HQJ.out HE2.out HL2.out HBD2.out HTT.out hs5 (HBL2.out.trans hb5))
      clear hs5 hb5
      go_wp2
      go_roundw
      case rel => exact ⟨0 + 1, _, by omega, rfl, by go_num, HN⟩
      case measure => simp [intOf]
     ·have HQJ := Lib.hid (show Q.drop 0 = b64C (V / 64 ^ (3 - 0) % 64) :: Q.drop (0 + 1) by rw [HQA.out 0 (by omega), if_neg hkj])
      have hkI : ¬ (0 : Int) > (K : Int) := by omega
      have hkI2 : ¬ (K : Int) < 0 := by omega
      have hE0 : 0 ≤ (V : Int) / 262144 := by omega
      have hm := and63 (x := (V : Int) / 262144) (by omega) (by omega)
      have hi0 : 0 ≤ (V : Int) / 262144 % 64 := by omega
      have hi1 : (V : Int) / 262144 % 64 < 64 := by omega
      have hi2 : ((V : Int) / 262144 % 64).toNat < 64 := by omega
      obtain ⟨cc, hcc⟩ : ∃ c, b64C (V / 64 ^ (3 - 0) % 64) = c := ⟨_, rfl⟩
      rw [hcc] at HQJ
      have hg1 : ∀ h : ((V : Int) / 262144 % 64).toNat < (⟨#[65, 66, 67, 68, 69, 70, 71, 72, 73, 74, 75, 76, 77, 78, 79, 80, 81, 82, 83, 84, 85, 86, 87, 88, 89, 90, 97, 98, 99, 100, 101, 102, 103, 104, 105, 106, 107, 108, 109, 110, 111, 112, 113, 114, 115, 116, 117, 118, 119, 120, 121, 122, 48, 49, 50, 51, 52, 53, 54, 55, 56, 57, 43, 47]⟩ : ByteArray).size, (((⟨#[65, 66, 67, 68, 69, 70, 71, 72, 73, 74, 75, 76, 77, 78, 79, 80, 81, 82, 83, 84, 85, 86, 87, 88, 89, 90, 97, 98, 99, 100, 101, 102, 103, 104, 105, 106, 107, 108, 109, 110, 111, 112, 113, 114, 115, 116, 117, 118, 119, 120, 121, 122, 48, 49, 50, 51, 52, 53, 54, 55, 56, 57, 43, 47]⟩ : ByteArray)[((V : Int) / 262144 % 64).toNat]'h).toNat : Int) = (cc.toNat : Int) := fun h => by
       have e : ((V : Int) / 262144 % 64).toNat = V / 64 ^ (3 - 0) % 64 := by rw [show V / 64 ^ (3 - 0) = V / 262144 by simp]; omega
       rw [b64Digits_at _ (by omega) h, e, hcc]
      obtain ⟨yc, hyc⟩ : ∃ y : Int, (cc.toNat : Int) = y := ⟨_, rfl⟩
      have HPB := Lib.hid (HPA.out cc)
      rw [hyc] at HPB
      simp only [hyc] at hg1
      clear hkj HPA hcc hyc
      go_wp2_with fail
      refine HPB.out.mono ?_
      rintro e w5 ⟨v5, rfl, hs5, hb5, -⟩
      have HN := Lib.hid (E6In.next (wr := wr) (by omega : 0 < 4) HQJ.out HE2.out HL2.out HBD2.out HTT.out hs5 (HBL2.out.trans hb5))
      clear hs5 hb5
      go_wp2
      go_roundw
      case rel => exact ⟨0 + 1, _, by omega, rfl, by go_num, HN⟩
      case measure => simp [intOf]
    ·by_cases hkj : K < 1
     ·have HQJ := Lib.hid (show Q.drop 1 = 61 :: Q.drop (1 + 1) by rw [HQA.out 1 (by omega), if_pos hkj])
      have hkI : (K : Int) < 1 := by omega
      have HPB := Lib.hid (HPA.out 61)
      clear hkj HPA
      go_wp2_with fail
      refine HPB.out.mono ?_
      rintro e w5 ⟨v5, rfl, hs5, hb5, -⟩
      have HN := Lib.hid (E6In.next (wr := wr) (by omega : 1 < 4) HQJ.out HE2.out HL2.out HBD2.out HTT.out hs5 (HBL2.out.trans hb5))
      clear hs5 hb5
      go_wp2
      go_roundw
      case rel => exact ⟨1 + 1, _, by omega, rfl, by go_num, HN⟩
      case measure => simp [intOf]
     ·have HQJ := Lib.hid (show Q.drop 1 = b64C (V / 64 ^ (3 - 1) % 64) :: Q.drop (1 + 1) by rw [HQA.out 1 (by omega), if_neg hkj])
      have hkI : ¬ (1 : Int) > (K : Int) := by omega
      have hkI2 : ¬ (K : Int) < 1 := by omega
      have hE0 : 0 ≤ (V : Int) / 4096 := by omega
      have hm := and63 (x := (V : Int) / 4096) (by omega) (by omega)
      have hi0 : 0 ≤ (V : Int) / 4096 % 64 := by omega
      have hi1 : (V : Int) / 4096 % 64 < 64 := by omega
      have hi2 : ((V : Int) / 4096 % 64).toNat < 64 := by omega
      obtain ⟨cc, hcc⟩ : ∃ c, b64C (V / 64 ^ (3 - 1) % 64) = c := ⟨_, rfl⟩
      rw [hcc] at HQJ
      have hg1 : ∀ h : ((V : Int) / 4096 % 64).toNat < (⟨#[65, 66, 67, 68, 69, 70, 71, 72, 73, 74, 75, 76, 77, 78, 79, 80, 81, 82, 83, 84, 85, 86, 87, 88, 89, 90, 97, 98, 99, 100, 101, 102, 103, 104, 105, 106, 107, 108, 109, 110, 111, 112, 113, 114, 115, 116, 117, 118, 119, 120, 121, 122, 48, 49, 50, 51, 52, 53, 54, 55, 56, 57, 43, 47]⟩ : ByteArray).size, (((⟨#[65, 66, 67, 68, 69, 70, 71, 72, 73, 74, 75, 76, 77, 78, 79, 80, 81, 82, 83, 84, 85, 86, 87, 88, 89, 90, 97, 98, 99, 100, 101, 102, 103, 104, 105, 106, 107, 108, 109, 110, 111, 112, 113, 114, 115, 116, 117, 118, 119, 120, 121, 122, 48, 49, 50, 51, 52, 53, 54, 55, 56, 57, 43, 47]⟩ : ByteArray)[((V : Int) / 4096 % 64).toNat]'h).toNat : Int) = (cc.toNat : Int) := fun h => by
       have e : ((V : Int) / 4096 % 64).toNat = V / 64 ^ (3 - 1) % 64 := by rw [show V / 64 ^ (3 - 1) = V / 4096 by simp]; omega
       rw [b64Digits_at _ (by omega) h, e, hcc]
      obtain ⟨yc, hyc⟩ : ∃ y : Int, (cc.toNat : Int) = y := ⟨_, rfl⟩
      have HPB := Lib.hid (HPA.out cc)
      rw [hyc] at HPB
      simp only [hyc] at hg1
      clear hkj HPA hcc hyc
      go_wp2_with fail
      refine HPB.out.mono ?_
      rintro e w5 ⟨v5, rfl, hs5, hb5, -⟩
      have HN := Lib.hid (E6In.next (wr := wr) (by omega : 1 < 4) HQJ.out HE2.out HL2.out HBD2.out HTT.out hs5 (HBL2.out.trans hb5))
      clear hs5 hb5
      go_wp2
      go_roundw
      case rel => exact ⟨1 + 1, _, by omega, rfl, by go_num, HN⟩
      case measure => simp [intOf]
    ·by_cases hkj : K < 2
     ·have HQJ := Lib.hid (show Q.drop 2 = 61 :: Q.drop (2 + 1) by rw [HQA.out 2 (by omega), if_pos hkj])
      have hkI : (K : Int) < 2 := by omega
      have HPB := Lib.hid (HPA.out 61)
      clear hkj HPA
      go_wp2_with fail
      refine HPB.out.mono ?_
      rintro e w5 ⟨v5, rfl, hs5, hb5, -⟩
      have HN := Lib.hid (E6In.next (wr := wr) (by omega : 2 < 4) HQJ.out HE2.out HL2.out HBD2.out HTT.out hs5 (HBL2.out.trans hb5))
      clear hs5 hb5
      go_wp2
      go_roundw
      case rel => exact ⟨2 + 1, _, by omega, rfl, by go_num, HN⟩
      case measure => simp [intOf]
     ·have HQJ := Lib.hid (show Q.drop 2 = b64C (V / 64 ^ (3 - 2) % 64) :: Q.drop (2 + 1) by rw [HQA.out 2 (by omega), if_neg hkj])
      have hkI : ¬ (2 : Int) > (K : Int) := by omega
      have hkI2 : ¬ (K : Int) < 2 := by omega
      have hE0 : 0 ≤ (V : Int) / 64 := by omega
      have hm := and63 (x := (V : Int) / 64) (by omega) (by omega)
      have hi0 : 0 ≤ (V : Int) / 64 % 64 := by omega
      have hi1 : (V : Int) / 64 % 64 < 64 := by omega
      have hi2 : ((V : Int) / 64 % 64).toNat < 64 := by omega
      obtain ⟨cc, hcc⟩ : ∃ c, b64C (V / 64 ^ (3 - 2) % 64) = c := ⟨_, rfl⟩
      rw [hcc] at HQJ
      have hg1 : ∀ h : ((V : Int) / 64 % 64).toNat < (⟨#[65, 66, 67, 68, 69, 70, 71, 72, 73, 74, 75, 76, 77, 78, 79, 80, 81, 82, 83, 84, 85, 86, 87, 88, 89, 90, 97, 98, 99, 100, 101, 102, 103, 104, 105, 106, 107, 108, 109, 110, 111, 112, 113, 114, 115, 116, 117, 118, 119, 120, 121, 122, 48, 49, 50, 51, 52, 53, 54, 55, 56, 57, 43, 47]⟩ : ByteArray).size, (((⟨#[65, 66, 67, 68, 69, 70, 71, 72, 73, 74, 75, 76, 77, 78, 79, 80, 81, 82, 83, 84, 85, 86, 87, 88, 89, 90, 97, 98, 99, 100, 101, 102, 103, 104, 105, 106, 107, 108, 109, 110, 111, 112, 113, 114, 115, 116, 117, 118, 119, 120, 121, 122, 48, 49, 50, 51, 52, 53, 54, 55, 56, 57, 43, 47]⟩ : ByteArray)[((V : Int) / 64 % 64).toNat]'h).toNat : Int) = (cc.toNat : Int) := fun h => by
       have e : ((V : Int) / 64 % 64).toNat = V / 64 ^ (3 - 2) % 64 := by rw [show V / 64 ^ (3 - 2) = V / 64 by simp]; omega
       rw [b64Digits_at _ (by omega) h, e, hcc]
      obtain ⟨yc, hyc⟩ : ∃ y : Int, (cc.toNat : Int) = y := ⟨_, rfl⟩
      have HPB := Lib.hid (HPA.out cc)
      rw [hyc] at HPB
      simp only [hyc] at hg1
      clear hkj HPA hcc hyc
      go_wp2_with fail
      refine HPB.out.mono ?_
      rintro e w5 ⟨v5, rfl, hs5, hb5, -⟩
      have HN := Lib.hid (E6In.next (wr := wr) (by omega : 2 < 4) HQJ.out HE2.out HL2.out HBD2.out HTT.out hs5 (HBL2.out.trans hb5))
      clear hs5 hb5
      go_wp2
      go_roundw
      case rel => exact ⟨2 + 1, _, by omega, rfl, by go_num, HN⟩
      case measure => simp [intOf]
    ·by_cases hkj : K < 3
     ·have HQJ := Lib.hid (show Q.drop 3 = 61 :: Q.drop (3 + 1) by rw [HQA.out 3 (by omega), if_pos hkj])
      have hkI : (K : Int) < 3 := by omega
      have HPB := Lib.hid (HPA.out 61)
      clear hkj HPA
      go_wp2_with fail
      refine HPB.out.mono ?_
      rintro e w5 ⟨v5, rfl, hs5, hb5, -⟩
      have HN := Lib.hid (E6In.next (wr := wr) (by omega : 3 < 4) HQJ.out HE2.out HL2.out HBD2.out HTT.out hs5 (HBL2.out.trans hb5))
      clear hs5 hb5
      go_wp2
      go_roundw
      case rel => exact ⟨3 + 1, _, by omega, rfl, by go_num, HN⟩
      case measure => simp [intOf]
     ·have HQJ := Lib.hid (show Q.drop 3 = b64C (V / 64 ^ (3 - 3) % 64) :: Q.drop (3 + 1) by rw [HQA.out 3 (by omega), if_neg hkj])
      have hkI : ¬ (3 : Int) > (K : Int) := by omega
      have hkI2 : ¬ (K : Int) < 3 := by omega
      have hE0 : 0 ≤ (V : Int) := by omega
      have hm := and63 (x := (V : Int)) (by omega) (by omega)
      have hi0 : 0 ≤ (V : Int) % 64 := by omega
      have hi1 : (V : Int) % 64 < 64 := by omega
      have hi2 : ((V : Int) % 64).toNat < 64 := by omega
      obtain ⟨cc, hcc⟩ : ∃ c, b64C (V / 64 ^ (3 - 3) % 64) = c := ⟨_, rfl⟩
      rw [hcc] at HQJ
      have hg1 : ∀ h : ((V : Int) % 64).toNat < (⟨#[65, 66, 67, 68, 69, 70, 71, 72, 73, 74, 75, 76, 77, 78, 79, 80, 81, 82, 83, 84, 85, 86, 87, 88, 89, 90, 97, 98, 99, 100, 101, 102, 103, 104, 105, 106, 107, 108, 109, 110, 111, 112, 113, 114, 115, 116, 117, 118, 119, 120, 121, 122, 48, 49, 50, 51, 52, 53, 54, 55, 56, 57, 43, 47]⟩ : ByteArray).size, (((⟨#[65, 66, 67, 68, 69, 70, 71, 72, 73, 74, 75, 76, 77, 78, 79, 80, 81, 82, 83, 84, 85, 86, 87, 88, 89, 90, 97, 98, 99, 100, 101, 102, 103, 104, 105, 106, 107, 108, 109, 110, 111, 112, 113, 114, 115, 116, 117, 118, 119, 120, 121, 122, 48, 49, 50, 51, 52, 53, 54, 55, 56, 57, 43, 47]⟩ : ByteArray)[((V : Int) % 64).toNat]'h).toNat : Int) = (cc.toNat : Int) := fun h => by
       have e : ((V : Int) % 64).toNat = V / 64 ^ (3 - 3) % 64 := by rw [show V / 64 ^ (3 - 3) = V by simp]; omega
       rw [b64Digits_at _ (by omega) h, e, hcc]
      obtain ⟨yc, hyc⟩ : ∃ y : Int, (cc.toNat : Int) = y := ⟨_, rfl⟩
      have HPB := Lib.hid (HPA.out cc)
      rw [hyc] at HPB
      simp only [hyc] at hg1
      clear hkj HPA hcc hyc
      go_wp2_with fail
      refine HPB.out.mono ?_
      rintro e w5 ⟨v5, rfl, hs5, hb5, -⟩
      have HN := Lib.hid (E6In.next (wr := wr) (by omega : 3 < 4) HQJ.out HE2.out HL2.out HBD2.out HTT.out hs5 (HBL2.out.trans hb5))
      clear hs5 hb5
      go_wp2
      go_roundw
      case rel => exact ⟨3 + 1, _, by omega, rfl, by go_num, HN⟩
      case measure => simp [intOf]
   ·obtain rfl : j = 4 := by omega
    have HN := Lib.hid (HTL.out _ HI.out)
    have hrs : ((ba r).size : Int) = (r.length : Int) := by rw [ba_size]
    have HXX := Lib.hid (show (ba r).extract (min 3 (r.length : Int)).toNat (ba r).size = ba (r.drop 3) by
     rw [ba_cut, ba_size, List.take_length]
     congr 1
     by_cases h3 : 3 ≤ r.length
     ·rw [show (min 3 (r.length : Int)).toNat = 3 by omega]
     ·rw [show (min 3 (r.length : Int)).toNat = r.length by omega, List.drop_length, List.drop_eq_nil_of_le (by omega)])
    go_wp2_with fail
    refine ⟨⟨r.drop 3, _, _, _, _, rfl, rfl, rfl, rfl, congrArg Value.string HXX.out, HN⟩, ?_⟩
    rw [Lib.strSize_string, Lib.strSize_string, HXX.out, ba_size, ba_size, List.length_drop]
    have := HRP.out
    omega
end Go.Proofs.YthidbmeaccpjdaaGreatDoor
