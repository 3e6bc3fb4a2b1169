/- Reference 12: the contract of Told (printed by gen_told.py). -/
import Derived.Test.YtnpgnohlcphfnaaGreatDoorRFir
import Derived.Test.YtnpgnohlcphfnaaGreatDoorRTolP
import Derived.Test.YtnpgnohlcphfnaaGreatDoorM12
import Derived.Test.YtnpgnohlcphfnaaGreatDoorM16
import Derived.Test.YtnpgnohlcphfnaaGreatDoorRNumE
namespace Go.Proofs.YtnpgnohlcphfnaaGreatDoor
open Go.RowKit
set_option linter.unusedVariables false

def ToldPost (w : World) (n v : List UInt8) (e : Ending) (w' : World) : Prop := e = .returned (oneV ⟨whereP n, v⟩) ∧ Below w.heap.size w w'
theorem told_fin {w w' : World} {n v m : List UInt8} {z : Int} {b : Bool} (h : whereP n = ⟨m, z, b⟩) (hb : Below w.heap.size w w') : ToldPost w n v (.returned (.agg #[.string (ba m), .int .i64 z, .bool b, .string (ba v)])) w' := by
  unfold ToldPost oneV
  rw [h]
  exact ⟨rfl, hb⟩
/-- The boxes of Told, at the blocks b (the result) and b + 1. -/
structure TolBox (W : World) (b : Nat) (m v : List UInt8) (wd : Bool) : Prop where
  b1 : W.heap[b + 1]? = some (.cells #[.string (ba m), .int .i64 (-1), .bool wd, .string (ba v)] 100 (0, 0))
  b0 : W.heap[b]? = some (.cells #[.string ⟨#[]⟩, .int .i64 0, .bool false, .string ⟨#[]⟩] 100 (0, 0))
theorem TolBox.below {W W' : World} {b : Nat} {m v : List UInt8} {wd : Bool} (h : TolBox W b m v wd) (hb : Below W.heap.size W W') : TolBox W' b m v wd := ⟨(hb.block (b + 1) (heap_lt h.b1)).trans h.b1, (hb.block b (heap_lt h.b0)).trans h.b0⟩
theorem TolBox.made (w : World) (m v : List UInt8) (wd : Bool) : TolBox ((w.alloc (.cells #[.string ⟨#[]⟩, .int .i64 0, .bool false, .string ⟨#[]⟩] 100)).alloc (.cells #[.string (ba m), .int .i64 (-1), .bool wd, .string (ba v)] 100)) w.heap.size m v wd := by
  constructor
  · have h1 := (MapKept.heap_alloc (w.alloc (.cells #[.string ⟨#[]⟩, .int .i64 0, .bool false, .string ⟨#[]⟩] 100)) (.cells #[.string (ba m), .int .i64 (-1), .bool wd, .string (ba v)] 100)).1
    simp only [World.size_alloc] at h1
    exact h1
  · exact (heap_alloc_old _ _ (by simp)).trans (MapKept.heap_alloc w (.cells #[.string ⟨#[]⟩, .int .i64 0, .bool false, .string ⟨#[]⟩] 100)).1
set_option maxRecDepth 100000 in
set_option maxHeartbeats 4000000 in
theorem rtold_any (n v : List UInt8) (w : World) (hn : n.length ≤ 1000000000) :
    Calls Tryz.prog 111 #[.string (ba n), .string (ba v)] w (ToldPost w n v) := by
  obtain ⟨wd, hwd⟩ : ∃ b, (decide (1 < n.length) && decide (n.getLast? = some 42)) = b := ⟨_, rfl⟩
  obtain ⟨m, hm⟩ : ∃ m, (if wd = true then n.dropLast else n) = m := ⟨_, rfl⟩
  have HN1 := Lib.hid (whereP_none n wd m hwd hm)
  have HN2 := Lib.hid (whereP_bad n wd m hwd hm)
  have HN3 := Lib.hid (whereP_num n wd m hwd hm)
  have hml : m.length ≤ 1000000000 := by rw [← hm]; split; rw [List.length_dropLast]; omega; exact hn
  have HML := Lib.hid hml
  clear hml
  have HF0 := Lib.hid (TolBox.made w m v wd)
  have HBE := Lib.hid (show Below w.heap.size w ((w.alloc (.cells #[.string ⟨#[]⟩, .int .i64 0, .bool false, .string ⟨#[]⟩] 100)).alloc (.cells #[.string (ba m), .int .i64 (-1), .bool wd, .string (ba v)] 100)) from ((Below.refl _ _).alloc (Nat.le_refl _) _).alloc (by simp) _)
  obtain ⟨N, hN⟩ : ∃ N, n.length = N := ⟨_, rfl⟩
  have hsz : ((ba n).size : Int) = N := by rw [ba_size, hN]
  have HSZ := Lib.hid (show (ba n).size = N by rw [ba_size, hN])
  rw [hN] at hn
  by_cases h1 : 1 < N
  · obtain ⟨p, rfl⟩ : ∃ p, N = p + 1 := ⟨N - 1, by omega⟩
    have g1 : (1 : Int) < ((p + 1 : Nat) : Int) := by omega
    have hp : p < n.length := by omega
    obtain ⟨c, hc⟩ : ∃ c, n[p] = c := ⟨_, rfl⟩
    have hlast : n.getLast? = some c := by rw [List.getLast?_eq_getElem?, hN, Nat.add_sub_cancel, List.getElem?_eq_getElem hp, hc]
    obtain ⟨s, hs⟩ : ∃ s, ba n = s := ⟨_, rfl⟩
    obtain ⟨x, hx⟩ : ∃ x : Int, (c.toNat : Int) = x := ⟨_, rfl⟩
    have hgi : ∃ h : p < s.size, ((s[p]'h).toNat : Int) = x := by
      subst hs
      exact ⟨by rw [ba_size]; exact hp, by rw [← hx, ← hc]; rfl⟩
    have hpp : ((p + 1 : Nat) : Int) - 1 = (p : Int) := by omega
    have hpi : (p : Int) ≤ 1000000000 := by omega
    have hp0 : (0 : Int) ≤ (p : Int) := by omega
    by_cases h2 : x = 42
    · have hc42 : c = 42 := u8_int_eq.1 (by rw [hx]; exact h2)
      have hwd2 : wd = true := by rw [← hwd, hlast, hc42, hN]; simp [show 0 < p by omega]
      subst hwd2
      have hmd : s.extract 0 p = ba m := by
        rw [← hs, ← hm, ba_cut, if_pos rfl, List.dropLast_eq_take, hN]
        rfl
      have HMD := Lib.hid hmd
      have g2 : (x == 42) = true := by simpa using h2
      have hmn : m.length = p := by rw [← hm, if_pos rfl, List.length_dropLast, hN]; omega
      have HMIN := Lib.hid (show ((min p s.size : Nat) : Int) = (m.length : Int) by rw [hmn, ← hs, ba_size, hN]; omega)
      clear hmn
      rw [hs] at hsz HSZ ⊢
      obtain ⟨hps, hgj⟩ := hgi
      clear hwd hm hN hlast hp hc hs hc42 h2 hmd hx
      go_enter Tryz.func111, Tryz.ntmps111
      go_wp2
      rw [HMD.out]
      obtain ⟨W, hW⟩ : ∃ W, ((w.alloc (.cells #[.string ⟨#[]⟩, .int .i64 0, .bool false, .string ⟨#[]⟩] 100)).alloc (.cells #[.string (ba m), .int .i64 (-1), .bool true, .string (ba v)] 100)) = W := ⟨_, rfl⟩
      rw [hW] at HF0 HBE ⊢
      clear hW
      obtain ⟨M, hM⟩ : ∃ M, m.length = M := ⟨_, rfl⟩
      have HMM := Lib.hid hM
      have hmin := HMIN.out
      rw [hM] at HML hmin
      have hMl := HML.out
      obtain ⟨q, hq⟩ : ∃ q, ba m = q := ⟨_, rfl⟩
      have HQ := Lib.hid hq
      have HF9 := HF0
      clear hq
      have HQS := Lib.hid (show q.size = M by rw [← HQ.out, ba_size, hM])
      have hqz : (q.size : Int) = M := by rw [HQS.out]
      clear hM
      have c0 := cells_at HF0.out.b1 0 (u := .string (ba m)) rfl
      rw [HQ.out] at c0
      go_loop [7] (fun i => ∃ k : Nat, k ≤ M ∧ i = .int .i64 ((k : Int) - 1) ∧ Hid (LsRel m k)) (fun i => (intOf i + 1).toNat)
      case atStart => exact ⟨M, Nat.le_refl _, by (first | rfl | rw [HMM.out] | (congr 1; omega)), Lib.hid (by unfold LsRel; rw [List.drop_of_length_le (by rw [HMM.out]; exact Nat.le_refl _)]; simp)⟩
      case round =>
        obtain ⟨k, hk, rfl, HR⟩ := hrel
        by_cases hk0 : k = 0
        · subst hk0
          have HF := Lib.hid (HN1.out (ls_end HR.out))
          have g9 : ¬ (0 : Int) ≤ ((0 : Nat) : Int) - 1 := by omega
          have c1 := cells_at HF0.out.b1 1 (u := .int .i64 (-1)) rfl
          have c2 := cells_at HF0.out.b1 2 (u := .bool true) rfl
          have c3 := cells_at HF0.out.b1 3 (u := .string (ba v)) rfl
          have d0 := cells_at HF0.out.b0 0 (u := .string ⟨#[]⟩) rfl
          have d1 := cells_at HF0.out.b0 1 (u := .int .i64 0) rfl
          have d2 := cells_at HF0.out.b0 2 (u := .bool false) rfl
          have d3 := cells_at HF0.out.b0 3 (u := .string ⟨#[]⟩) rfl
          have f0 := cells_free HF0.out.b0 0
          have f1 := cells_free HF0.out.b0 1
          have f2 := cells_free HF0.out.b0 2
          have f3 := cells_free HF0.out.b0 3
          go_wp2
          refine bodyPost_ret (v := .agg #[.string (ba m), .int .i64 (-1), .bool true, .string (ba v)]) (by simp [results, Tryz.results111, go_sem, d0, d1, d2, d3, HQ.out]) rfl ?_
          refine told_fin HF.out ?_
          repeat (first | with_reducible exact HBE.out | refine Below.setCell ?_ (by simp) _)
        · obtain ⟨j, rfl⟩ : ∃ j, k = j + 1 := ⟨k - 1, by omega⟩
          rw [show ((j + 1 : Nat) : Int) - 1 = (j : Int) by omega]
          have hj0 : (0 : Int) ≤ (j : Int) := by omega
          have hj2 : (j : Int) < (M : Int) := by omega
          have hjl : j < m.length := by rw [HMM.out]; omega
          have HST := Lib.hid (fun h => ls_step hjl HR.out h)
          have HHI := Lib.hid (fun h => ls_hit hjl HR.out h)
          obtain ⟨d, hd⟩ : ∃ d, m[j] = d := ⟨_, rfl⟩
          rw [hd] at HST HHI
          obtain ⟨y, hy⟩ : ∃ y : Int, (d.toNat : Int) = y := ⟨_, rfl⟩
          have hgq : ∃ h : j < q.size, ((q[j]'h).toNat : Int) = y := by
            have h := HQ.out
            subst h
            exact ⟨by rw [ba_size]; exact hjl, by rw [← hy, ← hd]; rfl⟩
          obtain ⟨hjq, hgk⟩ := hgq
          have HY := Lib.hid hy
          have hjx1 : q.extract (j + 1) q.size = ba (m.drop (j + 1)) := by rw [← HQ.out]; exact ba_drop _ _
          have hjx2 : q.extract 0 j = ba (m.take j) := by rw [← HQ.out, ba_cut, List.drop_zero]
          have HX1 := Lib.hid hjx1
          have HX2 := Lib.hid hjx2
          clear hd hy hjl hjx1 hjx2 HR
          by_cases e1 : y = 42
          · have g9 : (y == 42) = true := by simpa using e1
            have HLP := Lib.hid (HHI.out (u8_int_eq.1 (by rw [HY.out]; exact e1)))
            have HN2B := Lib.hid (HN2.out _ _ HLP.out)
            have HN3B := Lib.hid (HN3.out _ _ HLP.out)
            have HPA := Lib.hid (rparse0_any (m.drop (j + 1)) 63 W (by rw [List.length_drop, HMM.out]; omega) (by omega) (by omega))
            have hj3 : (j : Int) + 1 ≤ (M : Int) := by omega
            have hj4 : (j : Int) ≤ (M : Int) := by omega
            clear e1 HST HHI
            go_wp2_with fail
            rw [HX1.out]
            refine HPA.out.mono ?_
            rintro e w3 ⟨rfl, hb3⟩
            have HF3 := Lib.hid (HF0.out.below hb3)
            have HB3 := Lib.hid (HBE.out.trans (hb3.mono HBE.out.size))
            have e0 := cells_at HF3.out.b1 0 (u := .string (ba m)) rfl
            rw [HQ.out] at e0
            have e1 := cells_at HF3.out.b1 1 (u := .int .i64 (-1)) rfl
            have e2 := cells_at HF3.out.b1 2 (u := .bool true) rfl
            have e3 := cells_at HF3.out.b1 3 (u := .string (ba v)) rfl
            have z0 := cells_free HF3.out.b1 0
            have z1 := cells_free HF3.out.b1 1
            have d0 := cells_at HF3.out.b0 0 (u := .string ⟨#[]⟩) rfl
            have d1 := cells_at HF3.out.b0 1 (u := .int .i64 0) rfl
            have d2 := cells_at HF3.out.b0 2 (u := .bool false) rfl
            have d3 := cells_at HF3.out.b0 3 (u := .string ⟨#[]⟩) rfl
            have f0 := cells_free HF3.out.b0 0
            have f1 := cells_free HF3.out.b0 1
            have f2 := cells_free HF3.out.b0 2
            have f3 := cells_free HF3.out.b0 3
            clear hb3 c0
            cases hdp : decP (m.drop (j + 1)) 0 63 with
            | none =>
              have HF := Lib.hid (HN2B.out hdp)
              clear hdp
              go_wp2
              refine bodyPost_ret (v := .agg #[.string (ba m), .int .i64 (-1), .bool true, .string (ba v)]) (by simp [results, Tryz.results111, go_sem, d0, d1, d2, d3, HQ.out]) rfl ?_
              refine told_fin HF.out ?_
              repeat (first | with_reducible exact HB3.out | refine Below.setCell ?_ (by simp) _)
            | some z =>
              have HF := Lib.hid (HN3B.out z hdp)
              clear hdp
              go_wp2
              rw [HX2.out]
              refine bodyPost_ret (v := .agg #[.string (ba (m.take j)), .int .i64 z, .bool true, .string (ba v)]) (by simp [results, Tryz.results111, go_sem, d0, d1, d2, d3]) rfl ?_
              refine told_fin HF.out ?_
              repeat (first | with_reducible exact HB3.out | refine Below.setCell ?_ (by simp) _)
          · have g9 : (y == 42) = false := by simpa using e1
            have HN := Lib.hid (HST.out (fun e => e1 (by rw [← HY.out, e]; rfl)))
            clear e1
            go_wp2
            go_round
            case rel => exact ⟨j, by omega, by go_num, HN⟩
            case measure => simp [intOf] <;> omega
    · have hc42 : c ≠ 42 := fun e => h2 (by rw [← hx, e]; rfl)
      have hwd2 : wd = false := by rw [← hwd, hlast]; simp [hc42]
      subst hwd2
      have g2 : (x == 42) = false := by simpa using h2
      obtain rfl : n = m := by rw [← hm]; rfl
      have HMIN := Lib.hid (show (p : Int) + 1 = (n.length : Int) by omega)
      have HSS := Lib.hid hs
      rw [hs] at hsz HSZ HF0 HBE ⊢
      obtain ⟨hps, hgj⟩ := hgi
      clear hwd hm hN hlast hp hc hs hc42 h2 hx
      go_enter Tryz.func111, Tryz.ntmps111
      go_wp2
      obtain ⟨W, hW⟩ : ∃ W, ((w.alloc (.cells #[.string ⟨#[]⟩, .int .i64 0, .bool false, .string ⟨#[]⟩] 100)).alloc (.cells #[.string s, .int .i64 (-1), .bool false, .string (ba v)] 100)) = W := ⟨_, rfl⟩
      rw [hW] at HF0 HBE ⊢
      clear hW
      obtain ⟨M, hM⟩ : ∃ M, n.length = M := ⟨_, rfl⟩
      have HMM := Lib.hid hM
      have hmin := HMIN.out
      rw [hM] at HML hmin
      have hMl := HML.out
      obtain ⟨q, rfl⟩ : ∃ q, q = s := ⟨_, rfl⟩
      have HQ := HSS
      have HQS := Lib.hid (show q.size = M by rw [← HQ.out, ba_size, hM])
      have hqz : (q.size : Int) = M := by rw [HQS.out]
      clear hM
      have c0 := cells_at HF0.out.b1 0 (u := .string (ba n)) rfl
      rw [HQ.out] at c0
      go_loop [7] (fun i => ∃ k : Nat, k ≤ M ∧ i = .int .i64 ((k : Int) - 1) ∧ Hid (LsRel n k)) (fun i => (intOf i + 1).toNat)
      case atStart => exact ⟨M, Nat.le_refl _, by (first | rfl | rw [HMM.out] | (congr 1; omega)), Lib.hid (by unfold LsRel; rw [List.drop_of_length_le (by rw [HMM.out]; exact Nat.le_refl _)]; simp)⟩
      case round =>
        obtain ⟨k, hk, rfl, HR⟩ := hrel
        by_cases hk0 : k = 0
        · subst hk0
          have HF := Lib.hid (HN1.out (ls_end HR.out))
          have g9 : ¬ (0 : Int) ≤ ((0 : Nat) : Int) - 1 := by omega
          have c1 := cells_at HF0.out.b1 1 (u := .int .i64 (-1)) rfl
          have c2 := cells_at HF0.out.b1 2 (u := .bool false) rfl
          have c3 := cells_at HF0.out.b1 3 (u := .string (ba v)) rfl
          have d0 := cells_at HF0.out.b0 0 (u := .string ⟨#[]⟩) rfl
          have d1 := cells_at HF0.out.b0 1 (u := .int .i64 0) rfl
          have d2 := cells_at HF0.out.b0 2 (u := .bool false) rfl
          have d3 := cells_at HF0.out.b0 3 (u := .string ⟨#[]⟩) rfl
          have f0 := cells_free HF0.out.b0 0
          have f1 := cells_free HF0.out.b0 1
          have f2 := cells_free HF0.out.b0 2
          have f3 := cells_free HF0.out.b0 3
          go_wp2
          refine bodyPost_ret (v := .agg #[.string (ba n), .int .i64 (-1), .bool false, .string (ba v)]) (by simp [results, Tryz.results111, go_sem, d0, d1, d2, d3, HQ.out]) rfl ?_
          refine told_fin HF.out ?_
          repeat (first | with_reducible exact HBE.out | refine Below.setCell ?_ (by simp) _)
        · obtain ⟨j, rfl⟩ : ∃ j, k = j + 1 := ⟨k - 1, by omega⟩
          rw [show ((j + 1 : Nat) : Int) - 1 = (j : Int) by omega]
          have hj0 : (0 : Int) ≤ (j : Int) := by omega
          have hj2 : (j : Int) < (M : Int) := by omega
          have hjl : j < n.length := by rw [HMM.out]; omega
          have HST := Lib.hid (fun h => ls_step hjl HR.out h)
          have HHI := Lib.hid (fun h => ls_hit hjl HR.out h)
          obtain ⟨d, hd⟩ : ∃ d, n[j] = d := ⟨_, rfl⟩
          rw [hd] at HST HHI
          obtain ⟨y, hy⟩ : ∃ y : Int, (d.toNat : Int) = y := ⟨_, rfl⟩
          have hgq : ∃ h : j < q.size, ((q[j]'h).toNat : Int) = y := by
            have h := HQ.out
            subst h
            exact ⟨by rw [ba_size]; exact hjl, by rw [← hy, ← hd]; rfl⟩
          obtain ⟨hjq, hgk⟩ := hgq
          have HY := Lib.hid hy
          have hjx1 : q.extract (j + 1) q.size = ba (n.drop (j + 1)) := by rw [← HQ.out]; exact ba_drop _ _
          have hjx2 : q.extract 0 j = ba (n.take j) := by rw [← HQ.out, ba_cut, List.drop_zero]
          have HX1 := Lib.hid hjx1
          have HX2 := Lib.hid hjx2
          clear hd hy hjl hjx1 hjx2 HR
          by_cases e1 : y = 42
          · have g9 : (y == 42) = true := by simpa using e1
            have HLP := Lib.hid (HHI.out (u8_int_eq.1 (by rw [HY.out]; exact e1)))
            have HN2B := Lib.hid (HN2.out _ _ HLP.out)
            have HN3B := Lib.hid (HN3.out _ _ HLP.out)
            have HPA := Lib.hid (rparse0_any (n.drop (j + 1)) 63 W (by rw [List.length_drop, HMM.out]; omega) (by omega) (by omega))
            have hj3 : (j : Int) + 1 ≤ (M : Int) := by omega
            have hj4 : (j : Int) ≤ (M : Int) := by omega
            clear e1 HST HHI
            go_wp2_with fail
            rw [HX1.out]
            refine HPA.out.mono ?_
            rintro e w3 ⟨rfl, hb3⟩
            have HF3 := Lib.hid (HF0.out.below hb3)
            have HB3 := Lib.hid (HBE.out.trans (hb3.mono HBE.out.size))
            have e0 := cells_at HF3.out.b1 0 (u := .string (ba n)) rfl
            rw [HQ.out] at e0
            have e1 := cells_at HF3.out.b1 1 (u := .int .i64 (-1)) rfl
            have e2 := cells_at HF3.out.b1 2 (u := .bool false) rfl
            have e3 := cells_at HF3.out.b1 3 (u := .string (ba v)) rfl
            have z0 := cells_free HF3.out.b1 0
            have z1 := cells_free HF3.out.b1 1
            have d0 := cells_at HF3.out.b0 0 (u := .string ⟨#[]⟩) rfl
            have d1 := cells_at HF3.out.b0 1 (u := .int .i64 0) rfl
            have d2 := cells_at HF3.out.b0 2 (u := .bool false) rfl
            have d3 := cells_at HF3.out.b0 3 (u := .string ⟨#[]⟩) rfl
            have f0 := cells_free HF3.out.b0 0
            have f1 := cells_free HF3.out.b0 1
            have f2 := cells_free HF3.out.b0 2
            have f3 := cells_free HF3.out.b0 3
            clear hb3 c0
            cases hdp : decP (n.drop (j + 1)) 0 63 with
            | none =>
              have HF := Lib.hid (HN2B.out hdp)
              clear hdp
              go_wp2
              refine bodyPost_ret (v := .agg #[.string (ba n), .int .i64 (-1), .bool false, .string (ba v)]) (by simp [results, Tryz.results111, go_sem, d0, d1, d2, d3, HQ.out]) rfl ?_
              refine told_fin HF.out ?_
              repeat (first | with_reducible exact HB3.out | refine Below.setCell ?_ (by simp) _)
            | some z =>
              have HF := Lib.hid (HN3B.out z hdp)
              clear hdp
              go_wp2
              rw [HX2.out]
              refine bodyPost_ret (v := .agg #[.string (ba (n.take j)), .int .i64 z, .bool false, .string (ba v)]) (by simp [results, Tryz.results111, go_sem, d0, d1, d2, d3]) rfl ?_
              refine told_fin HF.out ?_
              repeat (first | with_reducible exact HB3.out | refine Below.setCell ?_ (by simp) _)
          · have g9 : (y == 42) = false := by simpa using e1
            have HN := Lib.hid (HST.out (fun e => e1 (by rw [← HY.out, e]; rfl)))
            clear e1
            go_wp2
            go_round
            case rel => exact ⟨j, by omega, by go_num, HN⟩
            case measure => simp [intOf] <;> omega
  · have hwd2 : wd = false := by rw [← hwd, hN]; simp [h1]
    subst hwd2
    have g1 : ¬ (1 : Int) < (N : Int) := by omega
    obtain rfl : n = m := by rw [← hm]; rfl
    have HMIN := Lib.hid (show (N : Int) = (n.length : Int) by omega)
    clear hwd hm hN
    go_enter Tryz.func111, Tryz.ntmps111
    go_wp2
    obtain ⟨W, hW⟩ : ∃ W, ((w.alloc (.cells #[.string ⟨#[]⟩, .int .i64 0, .bool false, .string ⟨#[]⟩] 100)).alloc (.cells #[.string (ba n), .int .i64 (-1), .bool false, .string (ba v)] 100)) = W := ⟨_, rfl⟩
    rw [hW] at HF0 HBE ⊢
    clear hW
    obtain ⟨M, hM⟩ : ∃ M, n.length = M := ⟨_, rfl⟩
    have HMM := Lib.hid hM
    have hmin := HMIN.out
    rw [hM] at HML hmin
    have hMl := HML.out
    obtain ⟨q, hq⟩ : ∃ q, ba n = q := ⟨_, rfl⟩
    have HQ := Lib.hid hq
    clear hq
    have HQS := Lib.hid (show q.size = M by rw [← HQ.out, ba_size, hM])
    have hqz : (q.size : Int) = M := by rw [HQS.out]
    clear hM
    have c0 := cells_at HF0.out.b1 0 (u := .string (ba n)) rfl
    rw [HQ.out] at c0
    go_loop [7] (fun i => ∃ k : Nat, k ≤ M ∧ i = .int .i64 ((k : Int) - 1) ∧ Hid (LsRel n k)) (fun i => (intOf i + 1).toNat)
    case atStart => exact ⟨M, Nat.le_refl _, by (first | rfl | rw [HMM.out] | (congr 1; omega)), Lib.hid (by unfold LsRel; rw [List.drop_of_length_le (by rw [HMM.out]; exact Nat.le_refl _)]; simp)⟩
    case round =>
      obtain ⟨k, hk, rfl, HR⟩ := hrel
      by_cases hk0 : k = 0
      · subst hk0
        have HF := Lib.hid (HN1.out (ls_end HR.out))
        have g9 : ¬ (0 : Int) ≤ ((0 : Nat) : Int) - 1 := by omega
        have c1 := cells_at HF0.out.b1 1 (u := .int .i64 (-1)) rfl
        have c2 := cells_at HF0.out.b1 2 (u := .bool false) rfl
        have c3 := cells_at HF0.out.b1 3 (u := .string (ba v)) rfl
        have d0 := cells_at HF0.out.b0 0 (u := .string ⟨#[]⟩) rfl
        have d1 := cells_at HF0.out.b0 1 (u := .int .i64 0) rfl
        have d2 := cells_at HF0.out.b0 2 (u := .bool false) rfl
        have d3 := cells_at HF0.out.b0 3 (u := .string ⟨#[]⟩) rfl
        have f0 := cells_free HF0.out.b0 0
        have f1 := cells_free HF0.out.b0 1
        have f2 := cells_free HF0.out.b0 2
        have f3 := cells_free HF0.out.b0 3
        go_wp2
        refine bodyPost_ret (v := .agg #[.string (ba n), .int .i64 (-1), .bool false, .string (ba v)]) (by simp [results, Tryz.results111, go_sem, d0, d1, d2, d3, HQ.out]) rfl ?_
        refine told_fin HF.out ?_
        repeat (first | with_reducible exact HBE.out | refine Below.setCell ?_ (by simp) _)
      · obtain ⟨j, rfl⟩ : ∃ j, k = j + 1 := ⟨k - 1, by omega⟩
        rw [show ((j + 1 : Nat) : Int) - 1 = (j : Int) by omega]
        have hj0 : (0 : Int) ≤ (j : Int) := by omega
        have hj2 : (j : Int) < (M : Int) := by omega
        have hjl : j < n.length := by rw [HMM.out]; omega
        have HST := Lib.hid (fun h => ls_step hjl HR.out h)
        have HHI := Lib.hid (fun h => ls_hit hjl HR.out h)
        obtain ⟨d, hd⟩ : ∃ d, n[j] = d := ⟨_, rfl⟩
        rw [hd] at HST HHI
        obtain ⟨y, hy⟩ : ∃ y : Int, (d.toNat : Int) = y := ⟨_, rfl⟩
        have hgq : ∃ h : j < q.size, ((q[j]'h).toNat : Int) = y := by
          have h := HQ.out
          subst h
          exact ⟨by rw [ba_size]; exact hjl, by rw [← hy, ← hd]; rfl⟩
        obtain ⟨hjq, hgk⟩ := hgq
        have HY := Lib.hid hy
        have hjx1 : q.extract (j + 1) q.size = ba (n.drop (j + 1)) := by rw [← HQ.out]; exact ba_drop _ _
        have hjx2 : q.extract 0 j = ba (n.take j) := by rw [← HQ.out, ba_cut, List.drop_zero]
        have HX1 := Lib.hid hjx1
        have HX2 := Lib.hid hjx2
        clear hd hy hjl hjx1 hjx2 HR
        by_cases e1 : y = 42
        · have g9 : (y == 42) = true := by simpa using e1
          have HLP := Lib.hid (HHI.out (u8_int_eq.1 (by rw [HY.out]; exact e1)))
          have HN2B := Lib.hid (HN2.out _ _ HLP.out)
          have HN3B := Lib.hid (HN3.out _ _ HLP.out)
          have HPA := Lib.hid (rparse0_any (n.drop (j + 1)) 63 W (by rw [List.length_drop, HMM.out]; omega) (by omega) (by omega))
          have hj3 : (j : Int) + 1 ≤ (M : Int) := by omega
          have hj4 : (j : Int) ≤ (M : Int) := by omega
          clear e1 HST HHI
          go_wp2_with fail
          rw [HX1.out]
          refine HPA.out.mono ?_
          rintro e w3 ⟨rfl, hb3⟩
          have HF3 := Lib.hid (HF0.out.below hb3)
          have HB3 := Lib.hid (HBE.out.trans (hb3.mono HBE.out.size))
          have e0 := cells_at HF3.out.b1 0 (u := .string (ba n)) rfl
          rw [HQ.out] at e0
          have e1 := cells_at HF3.out.b1 1 (u := .int .i64 (-1)) rfl
          have e2 := cells_at HF3.out.b1 2 (u := .bool false) rfl
          have e3 := cells_at HF3.out.b1 3 (u := .string (ba v)) rfl
          have z0 := cells_free HF3.out.b1 0
          have z1 := cells_free HF3.out.b1 1
          have d0 := cells_at HF3.out.b0 0 (u := .string ⟨#[]⟩) rfl
          have d1 := cells_at HF3.out.b0 1 (u := .int .i64 0) rfl
          have d2 := cells_at HF3.out.b0 2 (u := .bool false) rfl
          have d3 := cells_at HF3.out.b0 3 (u := .string ⟨#[]⟩) rfl
          have f0 := cells_free HF3.out.b0 0
          have f1 := cells_free HF3.out.b0 1
          have f2 := cells_free HF3.out.b0 2
          have f3 := cells_free HF3.out.b0 3
          clear hb3 c0
          cases hdp : decP (n.drop (j + 1)) 0 63 with
          | none =>
            have HF := Lib.hid (HN2B.out hdp)
            clear hdp
            go_wp2
            refine bodyPost_ret (v := .agg #[.string (ba n), .int .i64 (-1), .bool false, .string (ba v)]) (by simp [results, Tryz.results111, go_sem, d0, d1, d2, d3, HQ.out]) rfl ?_
            refine told_fin HF.out ?_
            repeat (first | with_reducible exact HB3.out | refine Below.setCell ?_ (by simp) _)
          | some z =>
            have HF := Lib.hid (HN3B.out z hdp)
            clear hdp
            go_wp2
            rw [HX2.out]
            refine bodyPost_ret (v := .agg #[.string (ba (n.take j)), .int .i64 z, .bool false, .string (ba v)]) (by simp [results, Tryz.results111, go_sem, d0, d1, d2, d3]) rfl ?_
            refine told_fin HF.out ?_
            repeat (first | with_reducible exact HB3.out | refine Below.setCell ?_ (by simp) _)
        · have g9 : (y == 42) = false := by simpa using e1
          have HN := Lib.hid (HST.out (fun e => e1 (by rw [← HY.out, e]; rfl)))
          clear e1
          go_wp2
          go_round
          case rel => exact ⟨j, by omega, by go_num, HN⟩
          case measure => simp [intOf] <;> omega
end Go.Proofs.YtnpgnohlcphfnaaGreatDoor
