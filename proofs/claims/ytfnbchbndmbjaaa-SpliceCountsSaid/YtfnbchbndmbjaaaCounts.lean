/- SpliceCounts: the law's walk. -/
import Derived.Test.YtfnbchbndmbjaaaBack
namespace Go.Proofs.Ytfnbchbndmbjaaa
open Go.RowKit
set_option linter.unusedVariables false

theorem sumDrop_take {l : List Spl} {j : Nat} {t : Spl} (h : l[j]? = some t) : sumDrop (l.take (j + 1)) = sumDrop (l.take j) + t.drop := by
  rw [List.take_add_one, h, sumDrop_append]; simp [sumDrop]
theorem sumAdd_take {l : List Spl} {j : Nat} {t : Spl} (h : l[j]? = some t) : sumAdd (l.take (j + 1)) = sumAdd (l.take j) + t.add.length := by
  rw [List.take_add_one, h, sumAdd_append]; simp [sumAdd]
theorem sumDrop_le {l : List Spl} (j : Nat) : sumDrop (l.take j) ≤ sumDrop l := by
  have := sumDrop_append (l.take j) (l.drop j); rw [List.take_append_drop] at this; omega
theorem sumAdd_le {l : List Spl} (j : Nat) : sumAdd (l.take j) ≤ sumAdd l := by
  have := sumAdd_append (l.take j) (l.drop j); rw [List.take_append_drop] at this; omega
theorem chain_at {l : List Spl} (h : chain l) {j : Nat} {s t : Spl} (hs : l[j]? = some s) (ht : l[j + 1]? = some t) : s.at_ + s.add.length < t.at_ := by
  induction l generalizing j with
  | nil => cases hs
  | cons x r ih =>
    cases r with
    | nil => simp at ht
    | cons y r =>
      cases j with
      | zero => simp at hs ht; subst hs; subst ht; exact h.1
      | succ j => exact ih h.2 (by simpa using hs) (by simpa using ht)

/-- What a place of the differences reads as. -/
theorem spl_at {w : World} {B N : Nat} {D : Option Addr} {l : List Spl} (h : Spis w B D N (l.map Spl.int)) {j : Nat} (hj : j < N) : ∃ ad t X x c, D = some ad ∧ ad.block < B ∧ l[j]? = some t ∧ w.cell? (ad.add (j * 3)) = some (.int .i64 t.at_) ∧
    w.cell? ⟨(ad.add (j * 3)).block, (ad.add (j * 3)).off + 1, none⟩ = some (.int .i64 t.drop) ∧ w.cell? ⟨(ad.add (j * 3)).block, (ad.add (j * 3)).off + 2, none⟩ = some (.slice X x c) ∧ t.add.length = x := by
  obtain ⟨ad, s, X, x, c, e, hb, hs, _, _, a0, a1, a2, _, _, hi⟩ := h.2 j hj
  rw [List.getElem?_map] at hs
  cases ht : l[j]? with
  | none => rw [ht] at hs; cases hs
  | some t =>
    rw [ht] at hs
    injection hs with hs
    subst hs
    rw [← add_add'] at a1 a2
    exact ⟨ad, t, X, x, c, e, hb, rfl, a0, a1, a2, hi.len⟩

set_option maxRecDepth 100000 in
set_option maxHeartbeats 4000000 in
theorem counts_any (A : Option Addr) (n c : Nat) (a : List Int) (B : Option Addr) (m d : Nat) (b : List Int) (w : World) (ha : CameIn w A n c a) (hb : CameIn w B m d b) :
    Calls Try.prog 7 #[.slice A n c, .slice B m d] w fun e w' => e = .returned (.bool true) ∧ Below w.heap.size w w' := by
  obtain ⟨hnc, hc63, ha⟩ := ha
  obtain ⟨hmd, hd63, hb⟩ := hb
  have HMX := Lib.hid (show n ≤ maxLen ∧ m ≤ maxLen ∧ c ≤ maxLen ∧ d ≤ maxLen by simp only [maxLen]; omega)
  have HA := Lib.hid ha
  have HB := Lib.hid hb
  have HN := Lib.hid ha.len
  have HM := Lib.hid hb.len
  have HCD := Lib.hid (show c * 8 ≤ 140737488355328 ∧ d * 8 ≤ 140737488355328 by omega)
  clear ha hb hc63 hd63
  obtain ⟨ok, hok⟩ : ∃ ok, ok = (decide (n ≤ 300) && decide (m ≤ 300)) := ⟨_, rfl⟩
  have HOK := Lib.hid hok; clear hok
  cases ok with
  | false =>
    go_enter Try.func7, Try.ntmps7
    go_wp2_with fail
    refine (small_any _).mono ?_
    rintro e w1 ⟨rfl, hb1⟩
    go_wp2_with fail
    refine (few_bool' A B n m c d _ HMX.out.1 HMX.out.2.1 false HOK.out).mono ?_
    rintro e w2 ⟨rfl, rfl⟩
    go_wp2
    go_ret
    exact ⟨rfl, hb1⟩
  | true =>
    have hsm : n ≤ 300 ∧ m ≤ 300 := by simpa using HOK.out.symm
    obtain ⟨hsm1, hsm2⟩ := hsm
    have hlaws := diff_small_laws a b (by rw [HN.out]; omega) (by rw [HM.out]; omega)
    have hnil := diff_nil_iff a b (by rw [HN.out]; omega) (by rw [HM.out]; omega)
    have HLW := Lib.hid hlaws
    have HNIL := Lib.hid hnil
    obtain ⟨kl, hkl⟩ : ∃ kl, (keepS a b).length = kl := ⟨_, rfl⟩
    obtain ⟨N, hN⟩ : ∃ N, (diffS a b).length = N := ⟨_, rfl⟩
    have hNle : N ≤ 601 := by have := diffS_len a b; have := HN.out; have := HM.out; omega
    have hsumd : sumDrop (diffS a b) + kl = n := by rw [← hkl, ← HN.out]; exact hlaws.2.2.2.1
    have hsuma : sumAdd (diffS a b) + kl = m := by rw [← hkl, ← HM.out]; exact hlaws.2.2.2.2
    have HSD := Lib.hid hsumd
    have HSA := Lib.hid hsuma
    have HKL := Lib.hid hkl
    have HNN := Lib.hid hN
    clear hlaws hnil hsumd hsuma hkl hN
    go_enter Try.func7, Try.ntmps7
    go_wp2_with fail
    refine (small_any _).mono ?_
    rintro e w1 ⟨rfl, hb1⟩
    have HB1 := Lib.hid hb1
    clear hb1
    go_wp2_with fail
    refine (few_bool' A B n m c d _ HMX.out.1 HMX.out.2.1 true HOK.out).mono ?_
    rintro e w2 ⟨rfl, rfl⟩
    go_wp2_with fail
    refine (keepS_any A B n m c d a b w1 ((HA.out.below HB1.out).more HB1.out.size) ((HB.out.below HB1.out).more HB1.out.size) hnc hmd HMX.out.2.2.1 HMX.out.2.2.2).mono ?_
    rintro e w2 h2
    obtain ⟨A2, c2, rfl, hc2, hc2m, hi2, hb2⟩ := IntOut.of h2
    rw [HKL.out] at hi2 hc2 ⊢
    have HB2 := Lib.hid (HB1.out.trans (hb2.mono HB1.out.size))
    clear h2 hb2 hi2
    go_wp2_with fail
    refine (diff_any A B n m c d a b w2 ((HA.out.below HB2.out).more HB2.out.size) ((HB.out.below HB2.out).more HB2.out.size) hnc hmd HCD.out.1 HCD.out.2).mono ?_
    rintro e w5 h5
    obtain ⟨D, c5, rfl, hc5, hc5m, hi5, hb5⟩ := SplOut.of (by rw [HN.out, HM.out]; omega) h5
    rw [HNN.out] at hi5 hc5 ⊢
    have HB5 := Lib.hid (HB2.out.trans (hb5.mono HB2.out.size))
    have HI5 := Lib.hid hi5
    clear h5 hb5 hi5
    go_wp2
    go_loopw [9, 10, 11] (fun g h i wr => ∃ j G H : Nat, j ≤ N ∧ i = .int .i64 j ∧ g = .int .i64 G ∧ h = .int .i64 H ∧ Hid (G = sumDrop ((diffS a b).take j)) ∧ Hid (H = sumAdd ((diffS a b).take j)) ∧ Hid (∃ d, wr = w5.drewN d)) (fun _ _ i _ => N - (intOf i).toNat)
    case atStart => exact ⟨0, 0, 0, Nat.zero_le _, rfl, rfl, rfl, rfl, rfl, 0, rfl⟩
    case round =>
      obtain ⟨j, G, H, hj, rfl, rfl, rfl, hG, hH, HW⟩ := hrel
      have hg1 : G ≤ 300 := by have := @sumDrop_le (diffS a b) j; have := HSD.out; have := hG.out; omega
      have hh1 : H ≤ 300 := by have := @sumAdd_le (diffS a b) j; have := HSA.out; have := hH.out; omega
      by_cases hlt : j < N
      · have hS : Spis wr wr.heap.size D N ((diffS a b).map Spl.int) := by obtain ⟨d, rfl⟩ := HW.out; exact HI5.out
        have HS := Lib.hid hS
        obtain ⟨ad, t, X, x, cx, rfl, _, ht, a0, a1, a2, hx⟩ := spl_at hS hlt
        have HTJ := Lib.hid ht
        have HXL := Lib.hid hx
        have hbt := diffS_bound a b t (List.mem_of_getElem? ht)
        rw [HN.out, HM.out, hx] at hbt
        have hfull := HLW.out.2.2.1 t (List.mem_of_getElem? ht)
        rw [hx] at hfull
        obtain ⟨p, hp⟩ : ∃ p, t.at_ = p := ⟨_, rfl⟩
        obtain ⟨q, hq⟩ : ∃ q, t.drop = q := ⟨_, rfl⟩
        have HP := Lib.hid hp
        have HQ := Lib.hid hq
        rw [hp] at a0
        rw [hq] at a1
        rw [hp, hq] at hbt
        rw [hq] at hfull
        obtain ⟨hb0, hb1', hb2'⟩ := hbt
        have hjN : (j : Int) < N := by omega
        clear hp hq hx ht hS
        have f0 : decide ((q : Int) < 0) = false := by simp
        have f6 : decide ((p : Int) < 0) = false := by simp
        by_cases hq0 : q = 0
        · have f1 : ((q : Int) == 0) = true := by simp; omega
          have f2 : ((x : Int) == 0) = false := by simp; omega
          clear hq0 hfull
          by_cases hj0 : j = 0
          · have f3 : decide (0 < j) = false := by simp; omega
            have f4 : decide ((0 : Int) < j) = false := by simp; omega
            clear hj0
            go_wp2
            go_quiet (fail)
            go_wp2
            go_roundw
            case rel => exact ⟨j + 1, G + q, H + x, by omega, by go_num, by go_num, by go_num, by have := hG.out; rw [Hid, sumDrop_take HTJ.out, HQ.out]; omega, by have := hH.out; rw [Hid, sumAdd_take HTJ.out, HXL.out]; omega, by obtain ⟨d, hd⟩ := HW.out; exact ⟨d + nq, by rw [hd]; exact World.drewN_drewN w5 d nq⟩⟩
            case measure => simp [intOf] <;> omega
          · have f3 : decide (0 < j) = true := by simp; omega
            have hj1 : 1 ≤ j := by omega
            have f4 : decide ((0 : Int) < j) = true := by simp; omega
            obtain ⟨ad', t', X', x', cx', e', _, ht', b0, b1, b2, hx'⟩ := spl_at HS.out (j := j - 1) (by omega)
            injection e' with e'
            subst e'
            have hch := chain_at HLW.out.2.1 ht' (by rw [show j - 1 + 1 = j by omega]; exact HTJ.out)
            rw [hx', HP.out] at hch
            obtain ⟨p', hp'⟩ : ∃ p', t'.at_ = p' := ⟨_, rfl⟩
            rw [hp'] at b0 hch
            have f5 : decide ((p : Int) ≤ (p' : Int) + (x' : Int)) = false := by simp; omega
            clear hj0 ht' hx' hp'
            go_wp2
            have y1 : IntKind.i64.wrap ((j : Int) - 1) = j - 1 := IntWalk.i64_in _ (by omega)
            have y2 : IntKind.i64.wrap ((p' : Int) + (x' : Int)) = p' + x' := IntWalk.i64_in _ (by omega)
            have z1 : 0 ≤ (j : Int) - 1 := by omega
            have z2 : 1 ≤ (j : Int) := by omega
            have z3 : (j : Int) - 1 < N := by omega
            have t1 : ((j : Int) - 1).toNat = j - 1 := by omega
            go_quiet (fail)
            clear y1 y2 z1 z2 z3 t1
            go_wp2
            go_roundw
            case rel => exact ⟨j + 1, G + q, H + x, by omega, by go_num, by go_num, by go_num, by have := hG.out; rw [Hid, sumDrop_take HTJ.out, HQ.out]; omega, by have := hH.out; rw [Hid, sumAdd_take HTJ.out, HXL.out]; omega, by obtain ⟨d, hd⟩ := HW.out; exact ⟨d + nq, by rw [hd]; exact World.drewN_drewN w5 d nq⟩⟩
            case measure => simp [intOf] <;> omega
        · have f1 : ((q : Int) == 0) = false := by simp; omega
          clear hq0 hfull
          by_cases hj0 : j = 0
          · have f3 : decide (0 < j) = false := by simp; omega
            have f4 : decide ((0 : Int) < j) = false := by simp; omega
            clear hj0
            go_wp2
            go_quiet (fail)
            go_wp2
            go_roundw
            case rel => exact ⟨j + 1, G + q, H + x, by omega, by go_num, by go_num, by go_num, by have := hG.out; rw [Hid, sumDrop_take HTJ.out, HQ.out]; omega, by have := hH.out; rw [Hid, sumAdd_take HTJ.out, HXL.out]; omega, by obtain ⟨d, hd⟩ := HW.out; exact ⟨d + nq, by rw [hd]; exact World.drewN_drewN w5 d nq⟩⟩
            case measure => simp [intOf] <;> omega
          · have f3 : decide (0 < j) = true := by simp; omega
            have hj1 : 1 ≤ j := by omega
            have f4 : decide ((0 : Int) < j) = true := by simp; omega
            obtain ⟨ad', t', X', x', cx', e', _, ht', b0, b1, b2, hx'⟩ := spl_at HS.out (j := j - 1) (by omega)
            injection e' with e'
            subst e'
            have hch := chain_at HLW.out.2.1 ht' (by rw [show j - 1 + 1 = j by omega]; exact HTJ.out)
            rw [hx', HP.out] at hch
            obtain ⟨p', hp'⟩ : ∃ p', t'.at_ = p' := ⟨_, rfl⟩
            rw [hp'] at b0 hch
            have f5 : decide ((p : Int) ≤ (p' : Int) + (x' : Int)) = false := by simp; omega
            clear hj0 ht' hx' hp'
            go_wp2
            have y1 : IntKind.i64.wrap ((j : Int) - 1) = j - 1 := IntWalk.i64_in _ (by omega)
            have y2 : IntKind.i64.wrap ((p' : Int) + (x' : Int)) = p' + x' := IntWalk.i64_in _ (by omega)
            have z1 : 0 ≤ (j : Int) - 1 := by omega
            have z2 : 1 ≤ (j : Int) := by omega
            have z3 : (j : Int) - 1 < N := by omega
            have t1 : ((j : Int) - 1).toNat = j - 1 := by omega
            go_quiet (fail)
            clear y1 y2 z1 z2 z3 t1
            go_wp2
            go_roundw
            case rel => exact ⟨j + 1, G + q, H + x, by omega, by go_num, by go_num, by go_num, by have := hG.out; rw [Hid, sumDrop_take HTJ.out, HQ.out]; omega, by have := hH.out; rw [Hid, sumAdd_take HTJ.out, HXL.out]; omega, by obtain ⟨d, hd⟩ := HW.out; exact ⟨d + nq, by rw [hd]; exact World.drewN_drewN w5 d nq⟩⟩
            case measure => simp [intOf] <;> omega
      · obtain rfl : j = N := by omega
        have hGn : ((G : Int) == (n : Int) - (kl : Int)) = true := by
          have h1 := hG.out; rw [← HNN.out, List.take_length] at h1
          have := HSD.out
          simp; omega
        have hHn : ((H : Int) == (m : Int) - (kl : Int)) = true := by
          have h1 := hH.out; rw [← HNN.out, List.take_length] at h1
          have := HSA.out
          simp; omega
        have hkln : kl ≤ n ∧ kl ≤ m := by have := HSD.out; have := HSA.out; omega
        obtain ⟨hkl1, hkl2⟩ := hkln
        have HBW : Hid (Below w.heap.size w wr) := by obtain ⟨d, hd⟩ := HW.out; rw [Hid, hd]; exact drewBelow HB5.out d
        by_cases hab : a = b
        · have hj0 : ((j : Int) == 0) = true := by have := HNIL.out.2 hab; have := HNN.out; simp; omega
          have HD := Lib.hid (show decide (a = b) = true by simp [hab])
          clear hab
          go_wp2_with fail
          refine (same_any A B n m c d a b wr ((HA.out.below HBW.out).more HBW.out.size) ((HB.out.below HBW.out).more HBW.out.size) HMX.out.1).mono ?_
          rw [HD.out]
          rintro e w7 ⟨rfl, k7, hw7⟩
          have HB7 := Lib.hid (show Below w.heap.size w w7 by rw [hw7]; exact drewBelow HBW.out k7)
          clear hw7
          go_wp2
          go_ret
          exact ⟨rfl, HB7.out⟩
        · have hj0 : ((j : Int) == 0) = false := by
            have h1 : ¬ j = 0 := fun h => hab (HNIL.out.1 (by rw [HNN.out]; exact h))
            simp; omega
          have HD := Lib.hid (show decide (a = b) = false by simp [hab])
          clear hab
          go_wp2_with fail
          refine (same_any A B n m c d a b wr ((HA.out.below HBW.out).more HBW.out.size) ((HB.out.below HBW.out).more HBW.out.size) HMX.out.1).mono ?_
          rw [HD.out]
          rintro e w7 ⟨rfl, k7, hw7⟩
          have HB7 := Lib.hid (show Below w.heap.size w w7 by rw [hw7]; exact drewBelow HBW.out k7)
          clear hw7
          go_wp2
          go_ret
          exact ⟨rfl, HB7.out⟩
end Go.Proofs.Ytfnbchbndmbjaaa
