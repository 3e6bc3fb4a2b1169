/- Reference 4: the contract of first. -/
import Derived.Test.YtnpgnohlcphfnaaGreatDoorRChA
import Derived.Test.YtnpgnohlcphfnaaGreatDoorRuneR
import Derived.Test.YtnpgnohlcphfnaaGreatDoorM17
import Derived.Test.YtnpgnohlcphfnaaGreatDoorRunR
import Derived.Test.YtnpgnohlcphfnaaGreatDoorHeadR
namespace Go.Proofs.YtnpgnohlcphfnaaGreatDoor
open Go.RowKit
set_option linter.unusedVariables false

def baseR (m : Nat) : Int := if m = 2 then 192 else if m = 3 then 224 else if m = 4 then 240 else 0
/-- What first has reckoned of the first i bytes. -/
def pR (l : List UInt8) (m : Nat) : Nat → Int
  | 0 => 0
  | 1 => (bt l 0 : Int) - baseR m
  | i + 2 => 64 * pR l m (i + 1) + (bt l (i + 1) : Int) - 128
theorem pR_nR {l : List UInt8} {m : Nat} (h1 : 1 ≤ m) (h4 : m ≤ 4) : pR l m m = nR l m := by
  obtain rfl | rfl | rfl | rfl : m = 1 ∨ m = 2 ∨ m = 3 ∨ m = 4 := by omega
  · simp [pR, nR, baseR]
  · simp [pR, nR, baseR]; omega
  · simp [pR, nR, baseR]; omega
  · simp [pR, nR, baseR]; omega
theorem pR_step {l : List UInt8} {m i : Nat} (h : 1 ≤ i) : pR l m (i + 1) = 64 * pR l m i + (bt l i : Int) - 128 := by
  obtain ⟨j, rfl⟩ : ∃ j, i = j + 1 := ⟨i - 1, by omega⟩
  rfl
theorem base_bd (m : Nat) : 0 ≤ baseR m ∧ baseR m ≤ 240 := by unfold baseR; split <;> first | omega | (split <;> first | omega | (split <;> omega))
theorem pR_bd (l : List UInt8) (m : Nat) : ∀ i, 1 ≤ i → i ≤ 4 → -100000000 ≤ pR l m i ∧ pR l m i ≤ 100000000 ∧ (i ≤ 3 → -1200000 ≤ pR l m i ∧ pR l m i ≤ 1200000) := by
  intro i h1 h4
  have hb := base_bd m
  have b0 := bt_lt l 0
  have b1 := bt_lt l 1
  have b2 := bt_lt l 2
  have b3 := bt_lt l 3
  have e1 : pR l m 1 = (bt l 0 : Int) - baseR m := rfl
  have e2 : pR l m 2 = 64 * pR l m 1 + (bt l 1 : Int) - 128 := rfl
  have e3 : pR l m 3 = 64 * pR l m 2 + (bt l 2 : Int) - 128 := rfl
  have e4 : pR l m 4 = 64 * pR l m 3 + (bt l 3 : Int) - 128 := rfl
  obtain rfl | rfl | rfl | rfl : i = 1 ∨ i = 2 ∨ i = 3 ∨ i = 4 := by omega
  · omega
  · omega
  · omega
  · omega
def FsRel (l : List UInt8) (m : Nat) : Prop := ∀ j, 1 ≤ j → j < m → okR l j = false
theorem fs_step {l : List UInt8} {m : Nat} (h : FsRel l m) (hk : okR l m = false) : FsRel l (m + 1) := fun j h1 h2 => by
  by_cases e : j = m
  · rw [e]; exact hk
  · exact h j h1 (by omega)
theorem fs_hit {l : List UInt8} {m : Nat} (h1 : 1 ≤ m) (h4 : m ≤ 4) (h : FsRel l m) (hk : okR l m = true) : firstR l = ((nR l m).toNat, m, true) := by
  obtain rfl | rfl | rfl | rfl : m = 1 ∨ m = 2 ∨ m = 3 ∨ m = 4 := by omega
  · unfold firstR
    rw [if_pos hk]
  · have e1 := h 1 (by omega) (by omega)
    unfold firstR
    rw [if_neg (by rw [e1]; decide), if_pos hk]
  · have e1 := h 1 (by omega) (by omega)
    have e2 := h 2 (by omega) (by omega)
    unfold firstR
    rw [if_neg (by rw [e1]; decide), if_neg (by rw [e2]; decide), if_pos hk]
  · have e1 := h 1 (by omega) (by omega)
    have e2 := h 2 (by omega) (by omega)
    have e3 := h 3 (by omega) (by omega)
    unfold firstR
    rw [if_neg (by rw [e1]; decide), if_neg (by rw [e2]; decide), if_neg (by rw [e3]; decide), if_pos hk]
theorem fs_miss {l : List UInt8} {m : Nat} (h : FsRel l m) (hm : 4 < m ∨ l.length < m) : firstR l = (65533, 1, false) := by
  have e : ∀ j, 1 ≤ j → j ≤ 4 → okR l j = false := fun j h1 h4 => by
    by_cases hj : j < m
    · exact h j h1 hj
    · exact okR_short (by omega)
  unfold firstR
  rw [if_neg (by rw [e 1 (by omega) (by omega)]; decide), if_neg (by rw [e 2 (by omega) (by omega)]; decide), if_neg (by rw [e 3 (by omega) (by omega)]; decide), if_neg (by rw [e 4 (by omega) (by omega)]; decide)]
def FirstPost (w : World) (q : Nat × Nat × Bool) (e : Ending) (w' : World) : Prop := e = .returned (.tuple #[.int .i64 (q.1 : Int), .int .i64 (q.2.1 : Int), .bool q.2.2]) ∧ Below w.heap.size w w'
theorem bt_get {l : List UInt8} {i : Nat} (h : i < l.length) : bt l i = l[i].toNat := by
  unfold bt
  rw [List.getD_eq_getElem?_getD, List.getElem?_eq_getElem h]
  rfl
set_option maxRecDepth 100000 in
set_option maxHeartbeats 4000000 in
theorem rfirst_any (l : List UInt8) (w : World) (hl : l.length ≤ 1000000000) (hne : l ≠ []) :
    Calls Tryz.prog 213 #[.string (ba l)] w (FirstPost w (firstR l)) := by
  have hpos : 1 ≤ l.length := List.length_pos_iff.2 hne
  clear hne
  obtain ⟨n, hn⟩ : ∃ n, l.length = n := ⟨_, rfl⟩
  have HL := Lib.hid hn
  obtain ⟨s, hs⟩ : ∃ s, ba l = s := ⟨_, rfl⟩
  have HS := Lib.hid hs
  have HZ := Lib.hid (show s.size = n by rw [← hs, ba_size, hn])
  have hsz : (s.size : Int) = n := by rw [HZ.out]
  rw [hs]
  rw [hn] at hl hpos
  clear hs hn
  have hn0 : ((n : Int) == 0) = false := by simp; omega
  have hn1 : ¬ (n : Int) = 0 := by omega
  go_enter Tryz.func213, Tryz.ntmps213
  go_wp2
  go_loopw [5, 6, 7] (fun i v j wr => ∃ (m : Nat) (y z : Value), v = y ∧ j = z ∧ 1 ≤ m ∧ m ≤ 5 ∧ i = .int .i64 (m : Int) ∧ Hid (FsRel l m) ∧ Hid (Below w.heap.size w wr)) (fun i _ _ _ => 5 - (intOf i).toNat)
  case atStart => exact ⟨1, _, _, rfl, rfl, Nat.le_refl _, by omega, rfl, Lib.hid (fun j h1 h2 => by omega), Lib.hid (Below.refl _ _)⟩
  case round =>
    obtain ⟨m, y, z, rfl, rfl, hm1, hm5, rfl, HF, HB⟩ := hrel
    by_cases hlt : m ≤ 4 ∧ m ≤ n
    · obtain ⟨h4, hmn⟩ := hlt
      have h4i : (m : Int) ≤ 4 := by omega
      have hmni : (m : Int) ≤ (n : Int) := by omega
      have h0s : 0 < s.size := by rw [HZ.out]; omega
      have h0n : (0 : Int) < n := by omega
      obtain ⟨x, hx⟩ : ∃ x : Int, (bt l 0 : Int) = x := ⟨_, rfl⟩
      have hgi : ((s[0]).toNat : Int) = x := by
        have h := HS.out
        have hb := bt_get (l := l) (i := 0) (by rw [HL.out]; omega)
        subst h
        rw [← hx, hb]
        rfl
      have hxb : 0 ≤ x ∧ x ≤ 255 := by have := bt_lt l 0; omega
      have HX := Lib.hid hx
      clear hx
      go_upto_if 25 with (fail)
      go_cut [6] from 25 to 33 (fun v wc => v = .int .i64 (pR l m 1) ∧ Hid (Below w.heap.size w wc))
      case first =>
        have hp1 : pR l m 1 = x - baseR m := by rw [← HX.out]; rfl
        have HP1 := Lib.hid hp1
        obtain ⟨hx0, hx1⟩ := hxb
        clear hp1
        by_cases e1 : m = 1
        · obtain rfl : m = 1 := e1
          go_wp2
          go_meet
          case rel => exact ⟨by rw [HP1.out]; simp [baseR], HB⟩
        · have hm1i : (1 : Int) < (m : Int) := by omega
          have hBD := HB.out.drew
          have HBD := Lib.hid hBD
          clear hBD
          by_cases e2 : m = 2
          · obtain rfl : m = 2 := e2
            go_wp2
            go_region
            all_goals
              go_wp2
              go_meet
              case rel => exact ⟨by rw [HP1.out]; simp [baseR], Lib.hid (HBD.out.alloc HBD.out.size _)⟩
          · by_cases e3 : m = 3
            · obtain rfl : m = 3 := e3
              go_wp2
              go_region
              all_goals
                go_wp2
                go_meet
                case rel => exact ⟨by rw [HP1.out]; simp [baseR], Lib.hid (HBD.out.alloc HBD.out.size _)⟩
            · obtain rfl : m = 4 := by omega
              go_wp2
              go_region
              all_goals
                go_wp2
                go_meet
                case rel => exact ⟨by rw [HP1.out]; simp [baseR], Lib.hid (HBD.out.alloc HBD.out.size _)⟩
      case rest =>
        obtain ⟨rfl, HC⟩ := hcut
        clear HB hgi HX hxb
        go_wp2
        go_loop [6, 7] (fun v j => ∃ i : Nat, 1 ≤ i ∧ i ≤ m ∧ v = .int .i64 (pR l m i) ∧ j = .int .i64 (i : Int)) (fun _ j => m - (intOf j).toNat)
        case atStart => exact ⟨1, Nat.le_refl _, hm1, rfl, rfl⟩
        case round =>
          obtain ⟨i, hi1, him, rfl, rfl⟩ := hrel
          by_cases hlt : i < m
          · have hin : i < n := by omega
            have hi2 : (i : Int) < (m : Int) := by omega
            have hi3 : (i : Int) < (n : Int) := by omega
            have hi0 : (0 : Int) ≤ (i : Int) := by omega
            have hks : i < s.size := by rw [HZ.out]; omega
            have hbd := (pR_bd l m i hi1 (by omega)).2.2 (by omega)
            have HST := Lib.hid (pR_step (l := l) (m := m) hi1)
            obtain ⟨y, hy⟩ : ∃ y : Int, (bt l i : Int) = y := ⟨_, rfl⟩
            have hgi : ((s[i]).toNat : Int) = y := by
              have h := HS.out
              have hb := bt_get (l := l) (i := i) (by rw [HL.out]; omega)
              subst h
              rw [← hy, hb]
              rfl
            have hy0 : 0 ≤ y := by omega
            have hy1 : y ≤ 255 := by have := bt_lt l i; omega
            rw [hy] at HST
            obtain ⟨p, hp⟩ : ∃ p, pR l m i = p := ⟨_, rfl⟩
            rw [hp] at HST hbd ⊢
            obtain ⟨hp0, hp1⟩ := hbd
            clear hp hy
            go_wp2
            go_round
            case rel => exact ⟨i + 1, by omega, by omega, by rw [HST.out], by go_num⟩
            case measure => simp [intOf] <;> omega
          · obtain rfl : m = i := by omega
            have hbd := pR_bd l m m hm1 h4
            rw [pR_nR hm1 h4] at hbd ⊢
            have HOK := Lib.hid (show okR l m = (decide (m ≤ l.length) && signR (nR l m) && decide (Lib.encodeRune (nR l m) = l.take m)) from rfl)
            have HHIT := Lib.hid (fs_hit hm1 h4 HF.out)
            have HNXT := Lib.hid (fs_step HF.out)
            have HEX := Lib.hid (show s.extract 0 m = ba (l.take m) by
              have h := HS.out
              subst h
              unfold ba
              apply ByteArray.ext
              simp)
            have HML : Hid (m ≤ l.length) := Lib.hid (by rw [HL.out]; omega)
            obtain ⟨N, hN⟩ : ∃ N, nR l m = N := ⟨_, rfl⟩
            rw [hN] at hbd HOK HHIT ⊢
            have HSG := Lib.hid (fun W => rsign_any N W)
            obtain ⟨b, hb⟩ : ∃ b, signR N = b := ⟨_, rfl⟩
            simp only [hb] at HSG
            have HSN := Lib.hid hb
            rw [hb] at HOK
            clear hN hb hbd HF
            cases b
            · have HNV := Lib.hid (HNXT.out (by rw [HOK.out]; simp))
              clear HNXT HHIT HOK HEX
              go_wp2
              refine wp_region_run (by kernel_rfl) ?_
              refine AnyS.seg (fuel := 10) 0 1 (by kernel_rfl) (by kernel_rfl) (by kernel_rfl) ?_
              simp only [List.drop_zero, List.take_succ_cons, List.take_zero]
              iterate 1 (refine stillS_step (fun K hK => ?_); go_simp; refine hK _ ?_; clear hK K)
              refine stillS_nil ?_
              go_simp
              refine ⟨wpAny_ready (rs := [1]) (by kernel_rfl) (by simp) ?_⟩
              refine AllReady.cons rfl (fun K hK => ?_) AllReady.nil
              go_simp
              refine (HSG.out _).mono ?_
              rintro e v1 ⟨rfl, hv⟩
              have HV1 := Lib.hid (show Below w.heap.size w v1 by rw [hv]; exact HC.out.drew)
              clear hv
              refine hK _ _ ?_
              clear hK K
              refine AnyS.out ?_
              go_simp
              refine AnyS.seg (fuel := 0) 2 9 (by kernel_rfl) (by kernel_rfl) (by kernel_rfl) ?_
              simp only [List.drop_succ_cons, List.drop_zero, List.take_succ_cons, List.take_zero]
              iterate 9 (refine stillS_step (fun K hK => ?_); go_simp; refine hK _ ?_; clear hK K)
              refine stillS_nil ?_
              go_simp
              refine AnyS.done (by kernel_rfl) ?_
              go_wp2
              go_roundw
              case rel => exact ⟨m + 1, _, _, rfl, rfl, by omega, by omega, by go_num, HNV, HV1⟩
              case measure => simp [intOf] <;> omega
            · have HLA := Lib.hid (fun W => rlaid_any N W HSN.out)
              have hls := fun W => laid_str W N
              have HNP := Lib.hid (show ((N.toNat : Nat) : Int) = N by
                have h := HSN.out
                unfold signR at h
                have h2 := of_decide_eq_true h
                exact Int.toNat_of_nonneg h2.1)
              have HFB := Lib.hid (show Below w.heap.size w (laidW wc.drew N) from HC.out.drew.trans ((laid_below wc.drew N).mono HC.out.drew.size))
              by_cases hq : Lib.encodeRune N = l.take m
              · have HRES := Lib.hid (HHIT.out (by rw [HOK.out, decide_eq_true hq, decide_eq_true HML.out]; rfl))
                have he : s.extract 0 m = ba (Lib.encodeRune N) := by rw [HEX.out, hq]
                obtain ⟨E, hE⟩ : ∃ E, ba (Lib.encodeRune N) = E := ⟨_, rfl⟩
                rw [hE] at he
                simp only [hE] at hls
                have e1 : (E.toList == E.toList) = true := by simp
                clear hq hE HNXT HHIT HOK HEX
                go_wp2
                go_region_with
                  (first
                    | (go_simp; go_at_call 235; refine (HSG.out _).mono ?_; rintro e v1 ⟨rfl, hv⟩; subst hv)
                    | (go_simp; go_at_call 184; refine (HLA.out _).mono ?_; rintro e v2 ⟨rfl, hv⟩; subst hv)
                    | fail)
                all_goals
                  go_wp2
                  go_ret3
                  unfold FirstPost
                  rw [HRES.out]
                  exact ⟨by rw [HNP.out]; rfl, HFB.out⟩
              · have HNV := Lib.hid (HNXT.out (by rw [HOK.out, decide_eq_false hq]; simp))
                have g0 : ¬ (ba (Lib.encodeRune N)).toList = (s.extract 0 m).toList := by rw [HEX.out, ba_toList, ba_toList]; exact hq
                obtain ⟨E, hE⟩ : ∃ E, ba (Lib.encodeRune N) = E := ⟨_, rfl⟩
                rw [hE] at g0
                simp only [hE] at hls
                have g1 : (E.toList == (s.extract 0 m).toList) = false := by simpa using g0
                clear hq hE HNXT HHIT HOK HEX
                go_wp2
                go_region_with
                  (first
                    | (go_simp; go_at_call 235; refine (HSG.out _).mono ?_; rintro e v1 ⟨rfl, hv⟩; subst hv)
                    | (go_simp; go_at_call 184; refine (HLA.out _).mono ?_; rintro e v2 ⟨rfl, hv⟩; subst hv)
                    | fail)
                all_goals
                  go_wp2
                  go_roundw
                  case rel => exact ⟨m + 1, _, _, rfl, rfl, by omega, by omega, by go_num, HNV, HFB⟩
                  case measure => simp [intOf] <;> omega
    · have HM := Lib.hid (fs_miss HF.out (by rw [HL.out]; omega))
      by_cases h4 : m ≤ 4
      · have h4i : (m : Int) ≤ 4 := by omega
        have hmn : ¬ (m : Int) ≤ (n : Int) := by omega
        clear HF
        go_wp2
        go_ret3
        unfold FirstPost
        rw [HM.out]
        exact ⟨rfl, HB.out⟩
      · have h4i : ¬ (m : Int) ≤ 4 := by omega
        clear HF
        go_wp2
        go_ret3
        unfold FirstPost
        rw [HM.out]
        exact ⟨rfl, HB.out⟩
end Go.Proofs.YtnpgnohlcphfnaaGreatDoor
