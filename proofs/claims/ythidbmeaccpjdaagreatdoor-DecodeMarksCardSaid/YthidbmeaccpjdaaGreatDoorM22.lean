/- Layer 6: the contract of UnB64. Layer 15: the contract of tag (printed by gen_decb. -/
import Derived.Test.YthidbmeaccpjdaaGreatDoorM20
import Derived.Test.YthidbmeaccpjdaaGreatDoorM19
namespace Go.Proofs.YthidbmeaccpjdaaGreatDoor
open Go.RowKit
set_option linter.unusedVariables false
set_option maxHeartbeats 4000000
theorem tab_one : tabC.all (·.oneCell') = true := by
 unfold tabC
 rw [List.all_toArray]
 exact List.all_eq_true.2 fun v hv => by
  obtain ⟨c, _, rfl⟩ := List.mem_map.1 hv
  rfl
theorem tab_size : tabC.size = 256 := by unfold tabC; rw [List.size_toArray, Lib.byteCells_length, tabL_len]
theorem tab_new (w : World) : (storeCells ⟨w.heap.size, 0, none⟩ tabC.toList 0).run Tryz.prog (w.alloc (.cells zTab 95)) = .ok () (w.alloc (.cells tabC 95)) :=
 run_storeCells_new w _ _ _ (by rw [size_tab, tab_size]) (by rw [zTab_size, tab_size]) tab_one
theorem tab_cell {w : World} {b : Nat} (h : w.heap[b]? = some (.cells tabC 95 (0, 0))) (c : UInt8) : w.cell? ⟨b, c.toNat, none⟩ = some (.int .u8 (b64V c : Int)) := by
 rw [Lib.cell_of_heap h]
 have hl : c.toNat < (tabL 64).length := by rw [tabL_len]; exact c.toNat_lt
 have e : tabC[c.toNat]? = some (.int .u8 ((tabL 64)[c.toNat].toNat : Int)) := by
  unfold tabC Lib.byteCells
  simp [hl]
 rw [e, tabL_get c hl]
structure B6Rel (w : World) (l r : List UInt8) (tb i v k : Nat) (wr : World) : Prop where
 ex : ∃ acc, Bld wr w.heap.size w.heap.size acc ∧ acc ++ b64F v k (r.drop i) = unb64P l ∧ acc.length + k ≤ i
 tab : wr.heap[tb]? = some (.cells tabC 95 (0, 0))
 bel : Below w.heap.size w wr
 k3 : k ≤ 3
 vk : v < 64 ^ k
theorem or6 {a b : Int} (ha : 0 ≤ a) (ha2 : a < 262144) (hb : 0 ≤ b) (hb2 : b < 64) : bits BinOp.or IntKind.i64 (a * 64) b = a * 64 + b :=
 bits_join .i64 30 (by decide) (fun n h0 h1 => by simp [IntKind.wrap, IntKind.bits, IntKind.signed]; omega) 6 (a * 64) b (by omega) (by omega) (by omega) (by omega) (by omega) (by omega)
theorem wb_int (B b : Nat) (acc : List UInt8) (x : Int) (c : UInt8) (w : World) (hx : (c.toNat : Int) = x) (h : Bld w B b acc) (hlen : acc.length + 1 ≤ 140737488355328) (hBw : B ≤ w.heap.size) :
  Calls Tryz.prog 56 #[.pointer (some ⟨b, 0, none⟩), .int .u8 x] w (WrotePost w B b (acc ++ [c]) .nilIface) := by
 subst hx
 exact write_byte B b acc c w h hlen hBw
theorem tab_kept {w w' : World} {B b k : Nat} {l : List UInt8} (h : Wrote w B b l w') (hk : w.heap[k]? = some (.cells tabC 95 (0, 0))) (hne : k ≠ b) : w'.heap[k]? = some (.cells tabC 95 (0, 0)) :=
 h.oth k _ hk (by simpa using hne) (fun c fz e => by injection e with _ e; exact absurd e (by decide))
theorem row3 {w : World} {a b c : UInt8} {x y z : Int} (hx : (a.toNat : Int) = x) (hy : (b.toNat : Int) = y) (hz : (c.toNat : Int) = z) : ByteRow (w.alloc (.cells #[.int .u8 x, .int .u8 y, .int .u8 z] 5)) w.heap.size [a, b, c] := by
 subst hx hy hz
 refine ⟨_, _, (0, 0), (MapKept.heap_alloc w _).1, fun j hj => ?_, .inr rfl⟩
 match j, hj with
 | 0, _ => rfl
 | 1, _ => rfl
 | 2, _ => rfl
 | j + 3, h => simp at h; omega
set_option maxRecDepth 100000 in
theorem unb64_any (l : List UInt8) (w : World) (hl : l.length ≤ 1000000000) (hT : Tabs w) :
  Calls Tryz.prog 37 #[.string (ba l)] w (StrB w (unb64P l)) := by
 have hz := zTab_val
 have HT := Lib.hid hT
 have HB0 := Lib.hid (bld_new w)
 have HCU := Lib.hid (fun W hW => cut_any 61 l W hl hW)
 unfold CutPost at HCU
 have hcl := cutV_len 61 l
 have HU := Lib.hid (show unb64P l = b64F 0 0 (cutV 61 l).1 by unfold unb64P cutV; cases cutP 61 l <;> rfl)
 have HVA := Lib.hid (fun W => values_any W)
 obtain ⟨⟨r, r2, f⟩, hv⟩ : ∃ v, cutV 61 l = v := ⟨_, rfl⟩
 rw [hv] at HU hcl
 simp only [hv] at HCU
 dsimp only at HU hcl
 clear hv hT
 go_enter Tryz.func37, Tryz.ntmps37
 go_wp2_with fail
 refine (HVA.out _).mono ?_
 rintro e w1 ⟨rfl, hb1⟩
 have HB1 := Lib.hid (((Below.refl w.heap.size w).alloc (Nat.le_refl _) (.cells #[.pointer none, .slice none 0 0] 64)).trans (hb1.mono (by simp)))
 have HBL1 := Lib.hid (HB0.out.below hb1)
 have hs1 : w.heap.size < w1.heap.size := by have := hb1.size; simp at this; omega
 have hst := tab_new w1
 clear hb1
 go_wp2_with fail
 refine (HCU.out _ ((HT.out.below HB1.out).below ((Below.refl _ _).alloc (Nat.le_refl _) _))).mono ?_
 rintro e w2 ⟨rfl, nn, rfl⟩
 obtain ⟨tb, htb⟩ : ∃ t, w1.heap.size = t := ⟨_, rfl⟩
 have HTB := Lib.hid htb
 obtain ⟨w2, hw2⟩ : ∃ W, (w1.alloc (.cells tabC 95)).drewN nn = W := ⟨_, rfl⟩
 have HREL := Lib.hid (show B6Rel w l r tb 0 0 0 w2 by
  subst hw2
  refine ⟨⟨[], (HBL1.out.alloc _), ?_, Nat.le_refl _⟩, ?_, ?_, by omega, by decide⟩
  ·rw [List.drop_zero, List.nil_append, HU.out]
  ·rw [← HTB.out]; exact (MapKept.heap_alloc w1 _).1
  ·exact below_drewN (HB1.out.alloc (by omega) _) nn)
 rw [hw2, HTB.out]
 clear hw2 htb HCU HVA hst HB0 HBL1 HB1
 have htb : w.heap.size < tb := by rw [← HTB.out]; exact hs1
 have HTL := Lib.hid htb
 clear htb hs1
 obtain ⟨n, hn⟩ : ∃ n, r.length = n := ⟨_, rfl⟩
 have HL := Lib.hid hn
 obtain ⟨s, hs⟩ : ∃ s, ba r = s := ⟨_, rfl⟩
 have HS := Lib.hid hs
 have HZ := Lib.hid (show s.size = n by rw [← hs, ba_size, hn])
 have hsz : (s.size : Int) = n := by rw [HZ.out]
 rw [hs]
 have hn9 : n ≤ 1000000000 := by rw [← hn]; omega
 clear hs hn hcl
 go_wp2
 go_loopw [5, 6, 7, 8, 18] (fun v k i d x wr => ∃ (i0 V K : Nat) (y z : Value), i = y ∧ d = z ∧ i0 ≤ n ∧ v = .int .i64 (V : Int) ∧ k = .int .i64 (K : Int) ∧ x = .int .i64 (i0 : Int) ∧ Hid (B6Rel w l r tb i0 V K wr)) (fun _ _ _ _ x _ => n - (intOf x).toNat)
 case atStart => exact ⟨0, 0, 0, _, _, rfl, rfl, by omega, rfl, rfl, rfl, HREL⟩
 case round =>
  obtain ⟨i, V, K, y, z, rfl, rfl, hi, rfl, rfl, rfl, HR⟩ := hrel
  have hk3 := HR.out.k3
  have hvk := HR.out.vk
  have hv3 : V < 262144 := Nat.lt_of_lt_of_le hvk (Nat.pow_le_pow_right (by decide) hk3)
  obtain ⟨acc, hbld, heq, hal⟩ := HR.out.ex
  have hszr := HR.out.bel.size
  have HBL := Lib.hid hbld
  have HEQ := Lib.hid heq
  have HAL := Lib.hid hal
  clear hbld heq hal hvk
  by_cases hlt : i < n
  ·have hk2 : (i : Int) < (n : Int) := by omega
   have hk0 : (0 : Int) ≤ (i : Int) := by omega
   have hks : i < s.size := by rw [HZ.out]; omega
   have hkl : i < r.length := by rw [HL.out]; omega
   have hget : s[i] = r[i] := by
    have h := HS.out
    subst h
    rfl
   have HDR := Lib.hid (List.drop_eq_getElem_cons hkl)
   obtain ⟨c, hc⟩ : ∃ c, r[i] = c := ⟨_, rfl⟩
   rw [hc] at hget HDR
   have hcell := tab_cell HR.out.tab c
   have hD := b64V_bd c
   obtain ⟨C, hC⟩ : ∃ C, c.toNat = C := ⟨_, rfl⟩
   have hC2 : (C : Int) < 256 := by have := c.toNat_lt; omega
   have hC0 : (0 : Int) ≤ (C : Int) := by omega
   have hgi : ((s[i]).toNat : Int) = (C : Int) := by rw [hget, hC]
   rw [hC] at hcell
   obtain ⟨D, hDD⟩ : ∃ D, b64V c = D := ⟨_, rfl⟩
   rw [hDD] at hcell hD
   have HD := Lib.hid hDD
   clear hc hget hC hDD hkl
   by_cases h0 : D = 0
   ·have g1 : ((D : Int) == 0) = true := by rw [h0]; rfl
    have HN := Lib.hid (show b64F V K (r.drop i) = b64F V K (r.drop (i + 1)) by rw [HDR.out]; conv => lhs; unfold b64F; rw [if_pos (HD.out.trans h0)])
    clear h0
    go_wp2
    go_roundw
    case rel => exact ⟨i + 1, V, K, _, _, rfl, rfl, by omega, rfl, rfl, by go_num, Lib.hid ⟨⟨acc, HBL.out, by rw [← HN.out]; exact HEQ.out, by have := HAL.out; omega⟩, HR.out.tab, HR.out.bel, HR.out.k3, HR.out.vk⟩⟩
    case measure => simp [intOf] <;> omega
   ·have g1 : ((D : Int) == 0) = false := by rw [beq_eq_false_iff_ne]; omega
    have hD1 : 0 < D := by omega
    obtain ⟨v, hv⟩ : ∃ v : Int, (V : Int) = v := ⟨_, rfl⟩
    obtain ⟨d, hd⟩ : ∃ d : Int, (D : Int) - 1 = d := ⟨_, rfl⟩
    have hdd : (D : Int) = d + 1 := by omega
    rw [hdd] at hcell g1
    have HV := Lib.hid hv
    have HDI := Lib.hid hd
    have hV0 : 0 ≤ v := by omega
    have hV3 : v < 262144 := by omega
    have hD0 : 0 ≤ d := by omega
    have hD9 : d < 64 := by omega
    have hor := or6 hV0 hV3 hD0 hD9
    have hw1 : (d + 1 - 1) % 256 = d := by omega
    have hw2 : v * 64 % 18446744073709551616 = v * 64 := by omega
    rw [hv]
    have HT6 := Lib.hid (show b64V c ≠ 0 by rw [HD.out]; exact h0)
    have hv2 : V < 64 ^ K := HR.out.vk
    clear hv hd hdd h0 hD hv3
    obtain ⟨T, hT⟩ : ∃ T, V * 64 + (D - 1) = T := ⟨_, rfl⟩
    have HTT := Lib.hid hT
    have hTi : v * 64 + d = (T : Int) := by have := HV.out; have := HDI.out; omega
    have HTI := Lib.hid hTi
    by_cases e3 : K = 3
    ·have HN := Lib.hid (show b64F V K (r.drop i) = [UInt8.ofNat (T / 65536), UInt8.ofNat (T / 256), UInt8.ofNat T] ++ b64F 0 0 (r.drop (i + 1)) by
      rw [HDR.out]
      conv => lhs; unfold b64F
      rw [if_neg HT6.out, if_pos e3, HD.out, HTT.out])
     subst e3
     have hT9 : T < 16777216 := by rw [← hT]; have := HV.out; have := HDI.out; omega
     have q1 : ((UInt8.ofNat (T / 65536)).toNat : Int) = (v * 64 + d) / 65536 := by rw [UInt8.toNat_ofNat', hTi]; omega
     have q2 : ((UInt8.ofNat (T / 256)).toNat : Int) = (v * 64 + d) / 256 % 256 := by rw [UInt8.toNat_ofNat', hTi]; omega
     have q3 : ((UInt8.ofNat T).toNat : Int) = (v * 64 + d) % 256 := by rw [UInt8.toNat_ofNat', hTi]; omega
     have HW3 := Lib.hid (row3 (w := wr) q1 q2 q3)
     obtain ⟨c1, hc1⟩ : ∃ c, UInt8.ofNat (T / 65536) = c := ⟨_, rfl⟩
     obtain ⟨c2, hc2⟩ : ∃ c, UInt8.ofNat (T / 256) = c := ⟨_, rfl⟩
     obtain ⟨c3, hc3⟩ : ∃ c, UInt8.ofNat T = c := ⟨_, rfl⟩
     rw [hc1, hc2, hc3] at HN HW3
     clear q1 q2 q3 hc1 hc2 hc3 hT hT9 hTi hv2
     have HWR := Lib.hid (write_bytes w.heap.size w.heap.size wr.heap.size 3 acc [c1, c2, c3] _ (HBL.out.alloc _) (by have := HAL.out; show _ + 3 ≤ _; omega) (by simp; omega) HW3.out (by have := HR.out.bel.size; have := HBL.out.lt; omega))
     have HBA := Lib.hid (show ∀ o, Below w.heap.size w (wr.alloc o) from fun o => HR.out.bel.alloc hszr o)
     have HTA := Lib.hid (show ∀ o : Obj, (wr.alloc o).heap[tb]? = some (.cells tabC 95 (0, 0)) from fun o => (heap_alloc_old _ _ (heap_lt HR.out.tab)).trans HR.out.tab)
     go_wp2_with fail
     refine HWR.out.mono ?_
     rintro e w5 ⟨rfl, hW⟩
     have HNR := Lib.hid (show B6Rel w l r tb (i + 1) 0 0 w5 from ⟨⟨acc ++ [c1, c2, c3], hW.bld, by rw [List.append_assoc, ← HN.out]; exact HEQ.out, by have := HAL.out; simp; omega⟩, tab_kept hW (HTA.out _) (by have := HTL.out; omega), (HBA.out _).trans (hW.bel.mono (by simp <;> omega)), by omega, by decide⟩)
     clear hW
     go_wp2
     go_roundw
     case rel => exact ⟨i + 1, 0, 0, _, _, rfl, rfl, by omega, rfl, rfl, by go_num, HNR⟩
     case measure => simp [intOf] <;> omega
    ·have g4 : ((K : Int) + 1 == 4) = false := by rw [beq_eq_false_iff_ne]; omega
     have HN := Lib.hid (show b64F V K (r.drop i) = b64F T (K + 1) (r.drop (i + 1)) by
      rw [HDR.out]
      conv => lhs; unfold b64F
      rw [if_neg HT6.out, if_neg e3, HD.out, HTT.out])
     have HKK := Lib.hid (show T < 64 ^ (K + 1) by rw [Nat.pow_succ, ← hT]; have := HV.out; have := HDI.out; omega)
     have hk2i : (K : Int) ≤ 3 := by omega
     have hk0i : (0 : Int) ≤ (K : Int) := by omega
     clear hT hv2
     go_wp2
     go_roundw
     case rel => exact ⟨i + 1, T, K + 1, _, _, rfl, rfl, by omega, by rw [← HTI.out], by go_num, by go_num, Lib.hid ⟨⟨acc, HBL.out, by rw [← HN.out]; exact HEQ.out, by have := HAL.out; omega⟩, HR.out.tab, HR.out.bel, by omega, HKK.out⟩⟩
     case measure => simp [intOf] <;> omega
  ·obtain rfl : i = n := by omega
   have HE := Lib.hid (show acc ++ b64E V K = unb64P l by rw [← HEQ.out, List.drop_of_length_le (by rw [HL.out]; exact Nat.le_refl _)]; rfl)
   have HBE := Lib.hid HR.out.bel
   have hvk := HR.out.vk
   clear HR HEQ
   obtain ⟨v, hv⟩ : ∃ v : Int, (V : Int) = v := ⟨_, rfl⟩
   have HV := Lib.hid hv
   have hv0 : 0 ≤ v := by omega
   have hv9 : v < 262144 := by omega
   rw [hv]
   have hK : K = 0 ∨ K = 1 ∨ K = 2 ∨ K = 3 := by omega
   clear hv hv3
   rcases hK with rfl | rfl | rfl | rfl
   ·have HE2 := Lib.hid (show acc = unb64P l by rw [← HE.out]; exact (List.append_nil _).symm)
    go_wp2_with fail
    refine (bld_string _ _ _ wr HBL.out hszr).mono ?_
    rintro e w8 ⟨rfl, hW⟩
    have HW8 := Lib.hid hW.bel
    clear hW
    go_wp2
    go_ret
    exact str_fin (by rw [HE2.out]) (HBE.out.trans HW8.out)
   ·have HE2 := Lib.hid (show acc = unb64P l by rw [← HE.out]; exact (List.append_nil _).symm)
    go_wp2_with fail
    refine (bld_string _ _ _ wr HBL.out hszr).mono ?_
    rintro e w8 ⟨rfl, hW⟩
    have HW8 := Lib.hid hW.bel
    clear hW
    go_wp2
    go_ret
    exact str_fin (by rw [HE2.out]) (HBE.out.trans HW8.out)
   ·have HWB := Lib.hid (wb_int _ _ acc (v / 16 % 256) (UInt8.ofNat (V / 2 ^ (6 * 2 - 8))) wr (by rw [UInt8.toNat_ofNat', ← HV.out]; show ((V / 16 % 256 : Nat) : Int) = _; omega) HBL.out (by have := HAL.out; omega) hszr)
    go_wp2_with fail
    refine HWB.out.mono ?_
    rintro e w5 ⟨rfl, hW⟩
    have HB5 := Lib.hid hW.bld
    have HE5 := Lib.hid hW.bel
    have hs5 : w.heap.size ≤ w5.heap.size := Nat.le_trans hszr hW.bel.size
    have HE2 := Lib.hid (show acc ++ [UInt8.ofNat (V / 2 ^ (6 * 2 - 8))] = unb64P l by rw [← HE.out]; rfl)
    clear hW
    go_wp2_with fail
    refine (bld_string _ _ _ w5 HB5.out hs5).mono ?_
    rintro e w8 ⟨rfl, hW⟩
    have HW8 := Lib.hid hW.bel
    clear hW
    go_wp2
    go_ret
    exact str_fin (by rw [HE2.out]) ((HBE.out.trans HE5.out).trans HW8.out)
   ·have HWB := Lib.hid (wb_int _ _ acc (v / 1024) (UInt8.ofNat (V / 2 ^ (6 * 3 - 8))) wr (by rw [UInt8.toNat_ofNat', ← HV.out]; show ((V / 1024 % 256 : Nat) : Int) = _; have := HV.out; omega) HBL.out (by have := HAL.out; omega) hszr)
    go_wp2_with fail
    refine HWB.out.mono ?_
    rintro e w5 ⟨rfl, hW⟩
    have hs5 : w.heap.size ≤ w5.heap.size := Nat.le_trans hszr hW.bel.size
    have HWB2 := Lib.hid (wb_int _ _ (acc ++ [UInt8.ofNat (V / 2 ^ (6 * 3 - 8))]) (v / 4 % 256) (UInt8.ofNat (V / 2 ^ (6 * 3 - 16))) w5 (by rw [UInt8.toNat_ofNat', ← HV.out]; show ((V / 4 % 256 : Nat) : Int) = _; omega) hW.bld (by have := HAL.out; simp; omega) hs5)
    have HE5 := Lib.hid (HBE.out.trans hW.bel)
    clear hW
    go_wp2_with fail
    refine HWB2.out.mono ?_
    rintro e w6 ⟨rfl, hW⟩
    have HB6 := Lib.hid hW.bld
    have HE6 := Lib.hid (HE5.out.trans hW.bel)
    have hs6 : w.heap.size ≤ w6.heap.size := Nat.le_trans hs5 hW.bel.size
    have HE2 := Lib.hid (show acc ++ [UInt8.ofNat (V / 2 ^ (6 * 3 - 8))] ++ [UInt8.ofNat (V / 2 ^ (6 * 3 - 16))] = unb64P l by rw [← HE.out, List.append_assoc]; rfl)
    clear hW
    go_wp2_with fail
    refine (bld_string _ _ _ w6 HB6.out hs6).mono ?_
    rintro e w8 ⟨rfl, hW⟩
    have HW8 := Lib.hid hW.bel
    clear hW
    go_wp2
    go_ret
    exact str_fin (by rw [← HE2.out]; simp) (HE6.out.trans HW8.out)
theorem sindex_any (s sub : List UInt8) (w : World) (hs : s.length ≤ 1000000000) (hT : Tabs w) :
  Calls Tryz.prog 114 #[.string (ba s), .string (ba sub)] w fun e w' => e = .returned (.int .i64 (Lib.index s sub)) ∧ w' = w := by
 obtain ⟨m, hm⟩ := hT.max
 exact Tryz.strings_Index (ba s) (ba sub) m w (by rw [ba_size]; omega) hm
theorem behind_len (m s : List UInt8) : (behindP m s).length ≤ s.length := by
 unfold behindP Lib.cut
 split
 ·show (s.drop _).length ≤ _
  rw [List.length_drop]; omega
 ·exact Nat.zero_le _
def TgPost (w : World) (q : List UInt8 × List UInt8) (e : Ending) (w' : World) : Prop := e = .returned (.tuple #[.string (ba q.1), .string (ba q.2)]) ∧ Below w.heap.size w w'
theorem tg_fin {w w' : World} {q : List UInt8 × List UInt8} {a b : List UInt8} {s t : ByteArray} (h : q = (a, b)) (hs : s = ba a) (ht : t = ba b) (hb : Below w.heap.size w w') : TgPost w q (.returned (.tuple #[.string s, .string t])) w' := by
 subst h hs ht
 exact ⟨rfl, hb⟩
theorem tagP_note {s : List UInt8} (h : ([60, 33, 45, 45] : List UInt8).isPrefixOf s = true) : tagP s = ([], behindP [45, 45, 62] (s.drop 4)) := by unfold tagP; rw [if_pos h]
theorem tagP_plain {c : UInt8} {t n r : List UInt8} {e : Bool} (h : ([60, 33, 45, 45] : List UInt8).isPrefixOf (c :: t) = false) (hq : nameTag t = (n, e)) (hr : behindP [62] (c :: t) = r) (he : e = true ∨ (n ≠ wScript ∧ n ≠ wStyle)) : tagP (c :: t) = (if n ∈ breakNames then [10] else [], r) := by
 unfold tagP
 rw [if_neg (by rw [h]; decide)]
 simp only [List.drop_succ_cons, List.drop_zero, hq, hr]
 rw [if_pos he]
theorem tagP_raw {c : UInt8} {t n r : List UInt8} {e : Bool} (h : ([60, 33, 45, 45] : List UInt8).isPrefixOf (c :: t) = false) (hq : nameTag t = (n, e)) (hr : behindP [62] (c :: t) = r) (he : ¬ (e = true ∨ (n ≠ wScript ∧ n ≠ wStyle))) :
  tagP (c :: t) = if Lib.index (smallP r) ([60, 47] ++ n) < 0 then (if n ∈ breakNames then [10] else [], []) else (if n ∈ breakNames then [10] else [], r.drop (Lib.index (smallP r) ([60, 47] ++ n)).toNat) := by
 unfold tagP
 rw [if_neg (by rw [h]; decide)]
 simp only [List.drop_succ_cons, List.drop_zero, hq, hr]
 rw [if_neg he]
set_option maxRecDepth 100000 in
theorem tag_any (c : UInt8) (t : List UInt8) (w : World) (hl : (c :: t).length ≤ 100000000) (hT : Tabs w) :
  Calls Tryz.prog 53 #[.string (ba (c :: t))] w (TgPost w (tagP (c :: t))) := by
 have HT := Lib.hid hT
 have hlt : t.length ≤ 100000000 := by simp at hl; omega
 have HC := Lib.hid (show ∀ W, Calls Tryz.prog 110 #[.string (ba (c :: t)), .string ⟨#[60, 33, 45, 45]⟩] W fun e w' => e = .returned (.tuple #[.string (ba (if ([60, 33, 45, 45] : List UInt8).isPrefixOf (c :: t) = true then (c :: t).drop 4 else (c :: t))), .bool (([60, 33, 45, 45] : List UInt8).isPrefixOf (c :: t))]) ∧ w' = W from fun W => cutpre_any [60, 33, 45, 45] (c :: t) W)
 have HB1 := Lib.hid (show ∀ W, Tabs W → Calls Tryz.prog 111 #[.string (ba ((c :: t).drop 4)), .string ⟨#[45, 45, 62]⟩] W (StrB W (behindP [45, 45, 62] ((c :: t).drop 4))) from fun W hW => behind_any [45, 45, 62] _ W (by rw [List.length_drop]; omega) hW)
 have HB2 := Lib.hid (show ∀ W, Tabs W → Calls Tryz.prog 111 #[.string (ba (c :: t)), .string ⟨#[62]⟩] W (StrB W (behindP [62] (c :: t))) from fun W hW => behind_any [62] _ W (by omega) hW)
 have HNA := Lib.hid (fun W => named_any c t W (by omega))
 unfold StrB at HB1 HB2
 unfold NmPost at HNA
 clear hT
 cases hp : ([60, 33, 45, 45] : List UInt8).isPrefixOf (c :: t) with
 | true =>
  have HF := Lib.hid (tagP_note hp)
  simp only [hp, if_true] at HC
  clear hp HB2 HNA
  obtain ⟨s, hs⟩ : ∃ s, ba (c :: t) = s := ⟨_, rfl⟩
  simp only [hs] at HC
  rw [hs]
  clear hs
  go_enter Tryz.func53, Tryz.ntmps53
  go_wp2_with fail
  refine (HC.out _).mono ?_
  rintro e w2 ⟨rfl, rfl⟩
  go_wp2_with fail
  refine (HB1.out _ HT.out).mono ?_
  rintro e w3 ⟨rfl, hb3⟩
  have HB3 := Lib.hid hb3
  clear hb3
  go_wp2
  go_ret2
  exact tg_fin HF.out rfl rfl HB3.out
 | false =>
  simp only [hp, Bool.false_eq_true, if_false] at HC
  obtain ⟨⟨n, en⟩, hq⟩ : ∃ q, nameTag t = q := ⟨_, rfl⟩
  obtain ⟨r, hr⟩ : ∃ r, behindP [62] (c :: t) = r := ⟨_, rfl⟩
  have HPL := Lib.hid (fun he => tagP_plain hp hq hr he)
  have HRW := Lib.hid (fun he => tagP_raw hp hq hr he)
  have hrl : r.length ≤ 100000000 := by rw [← hr]; exact Nat.le_trans (behind_len _ _) hl
  have HNL := Lib.hid (show n.length ≤ 100000000 by
   have h1 := nameTag_eq t
   rw [hq] at h1
   have h2 : n = _ := congrArg Prod.fst h1
   rw [h2, smallP_len]
   refine Nat.le_trans (List.takeWhile_prefix _).length_le ?_
   split; (rw [List.length_drop]; omega); exact hlt)
  simp only [hq] at HNA
  simp only [hr] at HB2
  obtain ⟨o, ho⟩ : ∃ o, tagP (c :: t) = o := ⟨_, rfl⟩
  simp only [ho] at HPL HRW
  rw [ho]
  have HBR := Lib.hid (fun W => breaks_any n W)
  obtain ⟨s, hs⟩ : ∃ s, ba (c :: t) = s := ⟨_, rfl⟩
  simp only [hs] at HC HB2 HNA
  rw [hs]
  clear hp hq hr ho hs HB1
  cases en with
  | true =>
   by_cases hm : n ∈ breakNames
   ·have HF := Lib.hid (show o = ([10], r) by rw [HPL.out (.inl rfl), if_pos hm])
    simp only [decide_eq_true hm] at HBR
    clear hm
    go_enter Tryz.func53, Tryz.ntmps53
    go_wp2_with fail
    refine (HC.out _).mono ?_
    rintro e w2 ⟨rfl, rfl⟩
    go_wp2_with fail
    refine (HNA.out _).mono ?_
    rintro e w3 ⟨rfl, hb3⟩
    have HB3 := Lib.hid hb3
    clear hb3
    go_wp2_with fail
    refine (HB2.out _ (HT.out.below HB3.out)).mono ?_
    rintro e w4 ⟨rfl, hb4⟩
    have HB4 := Lib.hid (HB3.out.trans (hb4.mono HB3.out.size))
    clear hb4
    go_wp2_with fail
    refine (HBR.out _).mono ?_
    rintro e w5 ⟨rfl, hw⟩
    have hw2 := hw.symm
    subst hw2
    clear hw
    go_wp2
    go_ret2
    exact tg_fin HF.out rfl rfl HB4.out
   ·have HF := Lib.hid (show o = ([], r) by rw [HPL.out (.inl rfl), if_neg hm])
    simp only [decide_eq_false hm] at HBR
    clear hm
    go_enter Tryz.func53, Tryz.ntmps53
    go_wp2_with fail
    refine (HC.out _).mono ?_
    rintro e w2 ⟨rfl, rfl⟩
    go_wp2_with fail
    refine (HNA.out _).mono ?_
    rintro e w3 ⟨rfl, hb3⟩
    have HB3 := Lib.hid hb3
    clear hb3
    go_wp2_with fail
    refine (HB2.out _ (HT.out.below HB3.out)).mono ?_
    rintro e w4 ⟨rfl, hb4⟩
    have HB4 := Lib.hid (HB3.out.trans (hb4.mono HB3.out.size))
    clear hb4
    go_wp2_with fail
    refine (HBR.out _).mono ?_
    rintro e w5 ⟨rfl, hw⟩
    have hw2 := hw.symm
    subst hw2
    clear hw
    go_wp2
    go_ret2
    exact tg_fin HF.out rfl rfl HB4.out
  | false =>
   by_cases h1 : n = wScript
   ·have hx : n ∉ breakNames := by rw [h1]; decide
    have g1 : ((ba n).toList != [115, 99, 114, 105, 112, 116]) = false := by rw [ba_toList, h1]; rfl
    have g2 : ((ba n).toList == [115, 99, 114, 105, 112, 116]) = true := by rw [ba_toList, h1]; rfl
    have HRR := Lib.hid (HRW.out (by rw [h1]; simp))
    clear h1
    rw [if_neg hx] at HRR
    simp only [decide_eq_false hx] at HBR
    clear hx HPL HRW
    have hnl : n.length ≤ 100000000 ∨ True := .inr trivial
    have HSM := Lib.hid (fun W => dcsmall_any r W (by omega))
    have HIX := Lib.hid (fun W hW => sindex_any (smallP r) ([60, 47] ++ n) W (by rw [smallP_len]; omega) hW)
    have hro := Lib.index_room (smallP r) ([60, 47] ++ n)
    have hge := Lib.index_ge (smallP r) ([60, 47] ++ n)
    rw [smallP_len] at hro
    unfold StrB at HSM
    have hap : (⟨#[60, 47]⟩ : ByteArray) ++ ba n = ba ([60, 47] ++ n) := (ba_append [60, 47] n).symm ▸ rfl
    have hln : ¬ 9223372036854775807 < (⟨#[60, 47]⟩ : ByteArray).size + (ba n).size := by rw [ba_size]; have := HNL.out; show ¬ _ < 2 + n.length; omega
    obtain ⟨x, hxx⟩ : ∃ x, Lib.index (smallP r) ([60, 47] ++ n) = x := ⟨_, rfl⟩
    rw [hxx] at HRR hro hge
    simp only [hxx] at HIX
    clear hxx hnl
    by_cases hx0 : x < 0
    ·have HF := Lib.hid (show o = ([], []) by rw [HRR.out, if_pos hx0])
     have gx : decide (x < 0) = true := decide_eq_true hx0
     clear hro hge
     go_enter Tryz.func53, Tryz.ntmps53
     go_wp2_with fail
     refine (HC.out _).mono ?_
     rintro e w2 ⟨rfl, rfl⟩
     go_wp2_with fail
     refine (HNA.out _).mono ?_
     rintro e w3 ⟨rfl, hb3⟩
     have HB3 := Lib.hid hb3
     clear hb3
     go_wp2_with fail
     refine (HB2.out _ (HT.out.below HB3.out)).mono ?_
     rintro e w4 ⟨rfl, hb4⟩
     have HB4 := Lib.hid (HB3.out.trans (hb4.mono HB3.out.size))
     clear hb4
     go_wp2_with fail
     refine (HBR.out _).mono ?_
     rintro e w5 ⟨rfl, hw⟩
     have hw2 := hw.symm
     subst hw2
     clear hw
     go_wp2_with fail
     refine (HSM.out _).mono ?_
     rintro e w6 ⟨rfl, hb6⟩
     have HB6 := Lib.hid (HB4.out.trans (hb6.mono HB4.out.size))
     clear hb6
     go_wp2_with fail
     refine (HIX.out _ (HT.out.below HB6.out)).mono ?_
     rintro e w7 ⟨rfl, hw⟩
     have hw2 := hw.symm
     subst hw2
     clear hw
     go_wp2
     go_ret2
     exact tg_fin HF.out rfl rfl HB6.out
    ·have gx : decide (x < 0) = false := decide_eq_false hx0
     have hx1 : 0 ≤ x := by omega
     have hx2 : x ≤ (r.length : Int) := by have := hro hx1; omega
     have HF := Lib.hid (show o = ([], r.drop x.toNat) by rw [HRR.out, if_neg hx0])
     have hrz : ((ba r).size : Int) = (r.length : Int) := by rw [ba_size]
     have hdr : (ba r).extract x.toNat (ba r).size = ba (r.drop x.toNat) := ba_drop r _
     clear hro hge hx0
     go_enter Tryz.func53, Tryz.ntmps53
     go_wp2_with fail
     refine (HC.out _).mono ?_
     rintro e w2 ⟨rfl, rfl⟩
     go_wp2_with fail
     refine (HNA.out _).mono ?_
     rintro e w3 ⟨rfl, hb3⟩
     have HB3 := Lib.hid hb3
     clear hb3
     go_wp2_with fail
     refine (HB2.out _ (HT.out.below HB3.out)).mono ?_
     rintro e w4 ⟨rfl, hb4⟩
     have HB4 := Lib.hid (HB3.out.trans (hb4.mono HB3.out.size))
     clear hb4
     go_wp2_with fail
     refine (HBR.out _).mono ?_
     rintro e w5 ⟨rfl, hw⟩
     have hw2 := hw.symm
     subst hw2
     clear hw
     go_wp2_with fail
     refine (HSM.out _).mono ?_
     rintro e w6 ⟨rfl, hb6⟩
     have HB6 := Lib.hid (HB4.out.trans (hb6.mono HB4.out.size))
     clear hb6
     go_wp2_with fail
     refine (HIX.out _ (HT.out.below HB6.out)).mono ?_
     rintro e w7 ⟨rfl, hw⟩
     have hw2 := hw.symm
     subst hw2
     clear hw
     go_wp2
     go_quiet (fail)
     go_wp2
     go_ret2
     exact tg_fin HF.out rfl rfl (below_drewN HB6.out _)
   ·have g1 : ((ba n).toList != [115, 99, 114, 105, 112, 116]) = true := by rw [ba_toList, bne_iff_ne]; exact h1
    have g1b : ((ba n).toList == [115, 99, 114, 105, 112, 116]) = false := by rw [ba_toList, beq_eq_false_iff_ne]; exact h1
    by_cases h2 : n = wStyle
    ·have hx : n ∉ breakNames := by rw [h2]; decide
     have g2 : ((ba n).toList != [115, 116, 121, 108, 101]) = false := by rw [ba_toList, h2]; rfl
     have g3 : ((ba n).toList == [115, 116, 121, 108, 101]) = true := by rw [ba_toList, h2]; rfl
     have HRR := Lib.hid (HRW.out (by rw [h2]; simp))
     clear h1 h2
     rw [if_neg hx] at HRR
     simp only [decide_eq_false hx] at HBR
     clear hx HPL HRW
     have hnl : n.length ≤ 100000000 ∨ True := .inr trivial
     have HSM := Lib.hid (fun W => dcsmall_any r W (by omega))
     have HIX := Lib.hid (fun W hW => sindex_any (smallP r) ([60, 47] ++ n) W (by rw [smallP_len]; omega) hW)
     have hro := Lib.index_room (smallP r) ([60, 47] ++ n)
     have hge := Lib.index_ge (smallP r) ([60, 47] ++ n)
     rw [smallP_len] at hro
     unfold StrB at HSM
     have hap : (⟨#[60, 47]⟩ : ByteArray) ++ ba n = ba ([60, 47] ++ n) := (ba_append [60, 47] n).symm ▸ rfl
     have hln : ¬ 9223372036854775807 < (⟨#[60, 47]⟩ : ByteArray).size + (ba n).size := by rw [ba_size]; have := HNL.out; show ¬ _ < 2 + n.length; omega
     obtain ⟨x, hxx⟩ : ∃ x, Lib.index (smallP r) ([60, 47] ++ n) = x := ⟨_, rfl⟩
     rw [hxx] at HRR hro hge
     simp only [hxx] at HIX
     clear hxx hnl
     by_cases hx0 : x < 0
     ·have HF := Lib.hid (show o = ([], []) by rw [HRR.out, if_pos hx0])
      have gx : decide (x < 0) = true := decide_eq_true hx0
      clear hro hge
      go_enter Tryz.func53, Tryz.ntmps53
      go_wp2_with fail
      refine (HC.out _).mono ?_
      rintro e w2 ⟨rfl, rfl⟩
      go_wp2_with fail
      refine (HNA.out _).mono ?_
      rintro e w3 ⟨rfl, hb3⟩
      have HB3 := Lib.hid hb3
      clear hb3
      go_wp2_with fail
      refine (HB2.out _ (HT.out.below HB3.out)).mono ?_
      rintro e w4 ⟨rfl, hb4⟩
      have HB4 := Lib.hid (HB3.out.trans (hb4.mono HB3.out.size))
      clear hb4
      go_wp2_with fail
      refine (HBR.out _).mono ?_
      rintro e w5 ⟨rfl, hw⟩
      have hw2 := hw.symm
      subst hw2
      clear hw
      go_wp2_with fail
      refine (HSM.out _).mono ?_
      rintro e w6 ⟨rfl, hb6⟩
      have HB6 := Lib.hid (HB4.out.trans (hb6.mono HB4.out.size))
      clear hb6
      go_wp2_with fail
      refine (HIX.out _ (HT.out.below HB6.out)).mono ?_
      rintro e w7 ⟨rfl, hw⟩
      have hw2 := hw.symm
      subst hw2
      clear hw
      go_wp2
      go_ret2
      exact tg_fin HF.out rfl rfl HB6.out
     ·have gx : decide (x < 0) = false := decide_eq_false hx0
      have hx1 : 0 ≤ x := by omega
      have hx2 : x ≤ (r.length : Int) := by have := hro hx1; omega
      have HF := Lib.hid (show o = ([], r.drop x.toNat) by rw [HRR.out, if_neg hx0])
      have hrz : ((ba r).size : Int) = (r.length : Int) := by rw [ba_size]
      have hdr : (ba r).extract x.toNat (ba r).size = ba (r.drop x.toNat) := ba_drop r _
      clear hro hge hx0
      go_enter Tryz.func53, Tryz.ntmps53
      go_wp2_with fail
      refine (HC.out _).mono ?_
      rintro e w2 ⟨rfl, rfl⟩
      go_wp2_with fail
      refine (HNA.out _).mono ?_
      rintro e w3 ⟨rfl, hb3⟩
      have HB3 := Lib.hid hb3
      clear hb3
      go_wp2_with fail
      refine (HB2.out _ (HT.out.below HB3.out)).mono ?_
      rintro e w4 ⟨rfl, hb4⟩
      have HB4 := Lib.hid (HB3.out.trans (hb4.mono HB3.out.size))
      clear hb4
      go_wp2_with fail
      refine (HBR.out _).mono ?_
      rintro e w5 ⟨rfl, hw⟩
      have hw2 := hw.symm
      subst hw2
      clear hw
      go_wp2_with fail
      refine (HSM.out _).mono ?_
      rintro e w6 ⟨rfl, hb6⟩
      have HB6 := Lib.hid (HB4.out.trans (hb6.mono HB4.out.size))
      clear hb6
      go_wp2_with fail
      refine (HIX.out _ (HT.out.below HB6.out)).mono ?_
      rintro e w7 ⟨rfl, hw⟩
      have hw2 := hw.symm
      subst hw2
      clear hw
      go_wp2
      go_quiet (fail)
      go_wp2
      go_ret2
      exact tg_fin HF.out rfl rfl (below_drewN HB6.out _)
    ·have g2 : ((ba n).toList != [115, 116, 121, 108, 101]) = true := by rw [ba_toList, bne_iff_ne]; exact h2
     have g2b : ((ba n).toList == [115, 116, 121, 108, 101]) = false := by rw [ba_toList, beq_eq_false_iff_ne]; exact h2
     by_cases hm : n ∈ breakNames
     ·have HF := Lib.hid (show o = ([10], r) by rw [HPL.out (.inr ⟨h1, h2⟩), if_pos hm])
      simp only [decide_eq_true hm] at HBR
      clear hm h1 h2
      go_enter Tryz.func53, Tryz.ntmps53
      go_wp2_with fail
      refine (HC.out _).mono ?_
      rintro e w2 ⟨rfl, rfl⟩
      go_wp2_with fail
      refine (HNA.out _).mono ?_
      rintro e w3 ⟨rfl, hb3⟩
      have HB3 := Lib.hid hb3
      clear hb3
      go_wp2_with fail
      refine (HB2.out _ (HT.out.below HB3.out)).mono ?_
      rintro e w4 ⟨rfl, hb4⟩
      have HB4 := Lib.hid (HB3.out.trans (hb4.mono HB3.out.size))
      clear hb4
      go_wp2_with fail
      refine (HBR.out _).mono ?_
      rintro e w5 ⟨rfl, hw⟩
      have hw2 := hw.symm
      subst hw2
      clear hw
      go_wp2
      go_ret2
      exact tg_fin HF.out rfl rfl HB4.out
     ·have HF := Lib.hid (show o = ([], r) by rw [HPL.out (.inr ⟨h1, h2⟩), if_neg hm])
      simp only [decide_eq_false hm] at HBR
      clear hm h1 h2
      go_enter Tryz.func53, Tryz.ntmps53
      go_wp2_with fail
      refine (HC.out _).mono ?_
      rintro e w2 ⟨rfl, rfl⟩
      go_wp2_with fail
      refine (HNA.out _).mono ?_
      rintro e w3 ⟨rfl, hb3⟩
      have HB3 := Lib.hid hb3
      clear hb3
      go_wp2_with fail
      refine (HB2.out _ (HT.out.below HB3.out)).mono ?_
      rintro e w4 ⟨rfl, hb4⟩
      have HB4 := Lib.hid (HB3.out.trans (hb4.mono HB3.out.size))
      clear hb4
      go_wp2_with fail
      refine (HBR.out _).mono ?_
      rintro e w5 ⟨rfl, hw⟩
      have hw2 := hw.symm
      subst hw2
      clear hw
      go_wp2
      go_ret2
      exact tg_fin HF.out rfl rfl HB4.out
end Go.Proofs.YthidbmeaccpjdaaGreatDoor
