/- Layer 34: the reference's Right (printed by gen_rsegc.py). -/
import Derived.Test.YtfinpehbpcckaaaGreatDoorM19
import Derived.Test.YtfinpehbpcckaaaGreatDoorM14
import Derived.Test.YtfinpehbpcckaaaGreatDoorM06
import Derived.Test.YtfinpehbpcckaaaGreatDoorRunR
namespace Go.Proofs.YtfinpehbpcckaaaGreatDoor
open Go.RowKit
set_option linter.unusedVariables false

theorem rin_eq (n lo hi : Int) (b : Bool) (w : World) (h : inB n lo hi = b) : Calls Tryz.prog 69 #[.int .i64 n, .int .i64 lo, .int .i64 hi] w fun e w' => e = .returned (.bool b) ∧ w' = w := by
  subst h; exact rin_any n lo hi w
theorem rahead_eq (f g : Int) (x y l k : List UInt8) (b : Bool) (w : World) (h : aheadB ⟨f, x, l⟩ ⟨g, y, k⟩ = b) : Calls Tryz.prog 42 #[.agg #[.int .i64 f, .string (ba x), .string (ba l)], .agg #[.int .i64 g, .string (ba y), .string (ba k)]] w fun e w' => e = .returned (.bool b) ∧ Below w.heap.size w w' := by
  subst h; exact rahead_any f g x y l k w
set_option maxRecDepth 100000 in
set_option maxHeartbeats 16000000 in
theorem rseg_right (A D : Option Addr) (n c m d : Nat) (s : Seg) (w : World) (h : SegIn w w.heap.size A n c D m d s) (hf : SegFew s) :
    Calls Tryz.prog 21 #[.agg #[.slice A n c, .slice D m d]] w fun e w' => e = .returned (.bool (rightP s)) ∧ Below w.heap.size w w' := by
  have H := Lib.hid h
  have HF := Lib.hid hf
  have hn9 : n ≤ 5000 := by rw [← h.terms.len]; exact hf.terms
  have hm9 : m ≤ 1000000 := by rw [← h.docs.len]; exact hf.docs
  have HN := Lib.hid h.terms.len
  have HM := Lib.hid h.docs.len
  have HHAS := Lib.hid (fun (x : Int) W (hb : Below w.heap.size w W) => rhas_any D m d s.docs x W ((h.docs.below hb).more hb.size) (by omega))
  clear h hf
  go_enter Tryz.func21, Tryz.ntmps21
  go_wp2
  have hb1 : Below w.heap.size w (w.alloc (.cells #[.slice A n c, .slice D m d] 28)) := (Below.refl _ _).alloc (Nat.le_refl _) _
  have c1a : (w.alloc (.cells #[.slice A n c, .slice D m d] 28)).cell? ⟨w.heap.size, 0, none⟩ = some (.slice A n c) := by go_simp
  have c1b : (w.alloc (.cells #[.slice A n c, .slice D m d] 28)).cell? ⟨w.heap.size, 1, none⟩ = some (.slice D m d) := by go_simp
  have hz1 : w.heap.size < (w.alloc (.cells #[.slice A n c, .slice D m d] 28)).heap.size := by simp
  obtain ⟨W1, hW1⟩ : ∃ W1, w.alloc (.cells #[.slice A n c, .slice D m d] 28) = W1 := ⟨_, rfl⟩
  rw [hW1] at hb1 c1a c1b hz1 ⊢
  clear hW1
  obtain ⟨g, hg⟩ : ∃ g, w.heap.size = g := ⟨_, rfl⟩
  rw [hg] at c1a c1b hz1 ⊢
  have HG := Lib.hid hg
  have HB1 := Lib.hid hb1
  clear hg hb1
  go_loopw [3] (fun i wr => ∃ k : Nat, k ≤ m ∧ i = .int .i64 (k : Int) ∧ Hid (Below W1.heap.size W1 wr) ∧ Hid (∀ j, j < k → docAt s.docs j = true)) (fun i _ => m - (intOf i).toNat)
  case atStart => exact ⟨0, Nat.zero_le _, rfl, Lib.hid (Below.refl _ _), Lib.hid fun j hj => by omega⟩
  case round =>
    obtain ⟨k, hk, rfl, HBQ, HK⟩ := hrel
    have hszq := HBQ.out.size
    have a0 : wr.cell? ⟨g, 0, none⟩ = some (.slice A n c) := (HBQ.out.cell (p := ⟨g, 0, none⟩) hz1).trans c1a
    have a1 : wr.cell? ⟨g, 1, none⟩ = some (.slice D m d) := (HBQ.out.cell (p := ⟨g, 1, none⟩) hz1).trans c1b
    have HBQA := Lib.hid (HB1.out.trans (HBQ.out.mono HB1.out.size))
    by_cases hlt : k < m
    · have hk2 : (k : Int) < m := by omega
      obtain ⟨ad, rfl, hbl, c0⟩ := (H.out.docs.below HBQA.out).at_ hlt
      have hkd : k < s.docs.length := by rw [HM.out]; exact hlt
      have HDA := Lib.hid (show docAt s.docs k = decide ((1 ≤ gi s.docs k ∧ gi s.docs k ≤ 1099511627776) ∧ (k = 0 ∨ gi s.docs (k - 1) < gi s.docs k)) from rfl)
      have HNO := Lib.hid (rightP_no1 hkd)
      obtain ⟨z, hz⟩ : ∃ z, gi s.docs k = z := ⟨_, rfl⟩
      rw [hz] at c0 HDA
      clear hz hkd
      by_cases z1 : 1 ≤ z ∧ z ≤ 1099511627776
      · have HIN := Lib.hid (show inB z 1 1099511627776 = true from decide_eq_true z1)
        by_cases hk0 : k = 0
        · have hk3 : decide ((0 : Int) < (k : Int)) = false := decide_eq_false (by omega)
          have hk4 : decide (0 < k) = false := decide_eq_false (by omega)
          have HY := Lib.hid (show docAt s.docs k = true by rw [HDA.out]; exact decide_eq_true (by omega))
          have HK0 := Lib.hid hk0
          clear hk0
          go_wp2
          go_quiet ((go_at_call 69; exact Calls.quiet_of_same (rin_eq _ _ _ true _ HIN.out)))
          go_wp2
          go_roundw
          case rel => exact ⟨k + 1, by omega, by go_num, Lib.hid (Below.drewN HBQ.out _), Lib.hid fun i hi => by
            have : i = k := by have := HK0.out; omega
            subst this; exact HY.out⟩
          case measure => simp [intOf] <;> omega
        · have hk3 : decide ((0 : Int) < (k : Int)) = true := decide_eq_true (by omega)
          have hk4 : decide (0 < k) = true := decide_eq_true (by omega)
          obtain ⟨j, hj⟩ : ∃ j, k - 1 = j := ⟨_, rfl⟩
          obtain ⟨ad', e', hbl', c0'⟩ := (H.out.docs.below HBQA.out).at_ (show j < m by omega)
          have e2 := Option.some.inj e'
          subst e2
          have hj1 : (k : Int) - 1 = (j : Int) := by omega
          have wj : IntKind.i64.wrap ((k : Int) - 1) = (j : Int) := by rw [hj1]; exact IntWalk.i64_in _ (by omega)
          have hj0 : (0 : Int) ≤ (j : Int) := by omega
          have hjm : (j : Int) < (m : Int) := by omega
          rw [hj] at HDA
          obtain ⟨y, hy⟩ : ∃ y, gi s.docs j = y := ⟨_, rfl⟩
          rw [hy] at c0' HDA
          clear hy e'
          by_cases hzy : z ≤ y
          · have HF0 := Lib.hid (HNO.out (by rw [HDA.out]; exact decide_eq_false (by omega)))
            have hzd : decide (z ≤ y) = true := decide_eq_true hzy
            clear hzy
            go_wp2
            go_quiet ((go_at_call 69; exact Calls.quiet_of_same (rin_eq _ _ _ true _ HIN.out)))
            go_wp2
            go_ret
            exact ⟨by rw [HF0.out]; rfl, HB1.out.trans ((Below.drewN HBQ.out _).mono HB1.out.size)⟩
          · have HY := Lib.hid (show docAt s.docs k = true by rw [HDA.out]; exact decide_eq_true (by omega))
            have hzd : decide (z ≤ y) = false := decide_eq_false hzy
            clear hzy
            go_wp2
            go_quiet ((go_at_call 69; exact Calls.quiet_of_same (rin_eq _ _ _ true _ HIN.out)))
            go_wp2
            go_roundw
            case rel => exact ⟨k + 1, by omega, by go_num, Lib.hid (Below.drewN HBQ.out _), Lib.hid fun i hi => by
              rcases Nat.lt_or_ge i k with h | h
              · exact HK.out i h
              · have : i = k := by omega
                subst this; exact HY.out⟩
            case measure => simp [intOf] <;> omega
      · have HIN := Lib.hid (show inB z 1 1099511627776 = false from decide_eq_false z1)
        have HF0 := Lib.hid (HNO.out (by rw [HDA.out]; exact decide_eq_false (by omega)))
        clear z1
        go_wp2
        go_quiet ((go_at_call 69; exact Calls.quiet_of_same (rin_eq _ _ _ false _ HIN.out)))
        go_wp2
        go_ret
        exact ⟨by rw [HF0.out]; rfl, HB1.out.trans ((Below.drewN HBQ.out _).mono HB1.out.size)⟩
    · obtain rfl : k = m := by omega
      have hdk : ∀ j, j < s.docs.length → docAt s.docs j = true := fun j hj => HK.out j (by rw [← HM.out]; exact hj)
      have HDK := Lib.hid hdk
      clear HK hlt hdk a0 a1
      obtain ⟨W2, rfl⟩ : ∃ W2, W2 = wr := ⟨_, rfl⟩
      obtain ⟨m, rfl⟩ : ∃ m, m = k := ⟨_, rfl⟩
      have a0 : W2.cell? ⟨g, 0, none⟩ = some (.slice A n c) := (HBQ.out.cell (p := ⟨g, 0, none⟩) hz1).trans c1a
      have a1 : W2.cell? ⟨g, 1, none⟩ = some (.slice D m d) := (HBQ.out.cell (p := ⟨g, 1, none⟩) hz1).trans c1b
      have hgw : g < W2.heap.size := by omega
      clear HBQ c1a c1b hz1
      go_wp2
      go_loopw [4] (fun i wr => ∃ k : Nat, k ≤ n ∧ i = .int .i64 (k : Int) ∧ Hid (Below W2.heap.size W2 wr) ∧ Hid (∀ j, j < k → termAt s j = true)) (fun i _ => n - (intOf i).toNat)
      case atStart => exact ⟨0, Nat.zero_le _, rfl, Lib.hid (Below.refl _ _), Lib.hid fun j hj => by omega⟩
      case round =>
        obtain ⟨k, hk, rfl, HBR, HK⟩ := hrel
        have hsz := HBR.out.size
        have HBA0 := Lib.hid (HBQA.out.trans (HBR.out.mono HBQA.out.size))
        have x0 : wr.cell? ⟨g, 0, none⟩ = some (.slice A n c) := (HBR.out.cell (p := ⟨g, 0, none⟩) hgw).trans a0
        by_cases hlt : k < n
        · have hk2 : (k : Int) < n := by omega
          obtain ⟨ad, rfl, hbl, c0, c1, c2, hbd⟩ := (H.out.terms.below HBA0.out).at_ hlt
          have hkn : k < s.terms.length := by rw [HN.out]; exact hlt
          have HNO := Lib.hid (rightP_no2 hkn)
          have hfew := HF.out.at_ hkn
          have HTA := Lib.hid (show termAt s k = (decide (1 ≤ (ti s.terms k).field ∧ (ti s.terms k).field ≤ 5) && (decide (k = 0) || decide (cmpT (ti s.terms (k - 1)) (ti s.terms k) < 0)) && decide (listP (ti s.terms k).word = [(ti s.terms k).word]) && listedP (ti s.terms k).list s.docs) from rfl)
          obtain ⟨t, htk⟩ : ∃ t, ti s.terms k = t := ⟨_, rfl⟩
          rw [htk] at c0 c1 c2 hbd hfew HTA
          obtain ⟨f, x, l⟩ := t
          dsimp only at c0 c1 c2 hbd hfew HTA
          have hx9 := hfew.1
          have hl9 : l.length ≤ 1000000 := by omega
          clear hkn hfew htk
          have HWB : Hid (Below wr.heap.size wr (wr.alloc (.cells #[.int .i64 f, .string (ba x), .string (ba l)] 47))) := Lib.hid ((Below.refl _ _).alloc (Nat.le_refl _) _)
          have hws : (wr.alloc (.cells #[.int .i64 f, .string (ba x), .string (ba l)] 47)).heap.size = wr.heap.size + 1 := by simp
          have HWS := Lib.hid hws
          have b0 : (wr.alloc (.cells #[.int .i64 f, .string (ba x), .string (ba l)] 47)).cell? ⟨wr.heap.size, 0, none⟩ = some (.int .i64 f) := by go_simp
          have b1 : (wr.alloc (.cells #[.int .i64 f, .string (ba x), .string (ba l)] 47)).cell? ⟨wr.heap.size, 1, none⟩ = some (.string (ba x)) := by go_simp
          have b2 : (wr.alloc (.cells #[.int .i64 f, .string (ba x), .string (ba l)] 47)).cell? ⟨wr.heap.size, 2, none⟩ = some (.string (ba l)) := by go_simp
          have hws2 := HBA0.out.size
          clear hws
          go_wp2_with fail
          refine (rlist_any x _ (by omega)).mono ?_
          rintro e w4 ⟨v4, rfl, hv4, hb4⟩
          obtain ⟨A4, c4, rfl, -, -, hS⟩ := hv4.strs
          have HB4 := Lib.hid ((HWB.out.mono (Nat.le_refl _)).trans (hb4.mono (by have := HWS.out; omega)))
          have HB4' := Lib.hid hb4
          have hz4 : wr.heap.size + 1 ≤ w4.heap.size := by have := hb4.size; have := HWS.out; omega
          have d2 : w4.cell? ⟨wr.heap.size, 2, none⟩ = some (.string (ba l)) := (hb4.cell (p := ⟨wr.heap.size, 2, none⟩) (by show wr.heap.size < _; have := HWS.out; omega)).trans b2
          have HS4 := Lib.hid hS
          clear hv4 hS
          go_wp2_with fail
          refine (rdecode_any l w4 hl9).mono ?_
          rintro e w5 hdec
          obtain ⟨A9, n9, c9, p, ok, rfl, hP, hb5, hn5, -, -, hlp, -, -⟩ := dec_form (docs := s.docs) hl9 hdec
          have HP := Lib.hid hP
          have HLP := Lib.hid hlp
          have HB5 := Lib.hid (HB4.out.trans (hb5.mono (by omega)))
          have hz5 : w4.heap.size ≤ w5.heap.size := hb5.size
          have HBOX := Lib.hid (HB4'.out.trans (hb5.mono HB4'.out.size))
          have e0 : w5.cell? ⟨wr.heap.size, 0, none⟩ = some (.int .i64 f) := (HBOX.out.cell (p := ⟨wr.heap.size, 0, none⟩) (by show wr.heap.size < _; have := HWS.out; omega)).trans b0
          have e1 : w5.cell? ⟨wr.heap.size, 1, none⟩ = some (.string (ba x)) := (HBOX.out.cell (p := ⟨wr.heap.size, 1, none⟩) (by show wr.heap.size < _; have := HWS.out; omega)).trans b1
          have e2 : w5.cell? ⟨wr.heap.size, 2, none⟩ = some (.string (ba l)) := (HBOX.out.cell (p := ⟨wr.heap.size, 2, none⟩) (by show wr.heap.size < _; have := HWS.out; omega)).trans b2
          have y0 : w5.cell? ⟨g, 0, none⟩ = some (.slice (some ad) n c) := (HB5.out.cell (p := ⟨g, 0, none⟩) (by show g < _; omega)).trans x0
          have HBR5 := Lib.hid (HBR.out.trans (HB5.out.mono hsz))
          have HBA5 := Lib.hid (HBA0.out.trans (HB5.out.mono HBA0.out.size))
          have y1 : w5.cell? ⟨g, 1, none⟩ = some (.slice D m d) := (HBR5.out.cell (p := ⟨g, 1, none⟩) hgw).trans a1
          have HPN := Lib.hid (show p.isEmpty = decide (n9 = 0) by
            have h1 := hP.len
            cases p with
            | nil => have : n9 = 0 := by simpa using h1.symm
                     subst this; rfl
            | cons a r => rw [decide_eq_false (by simp at h1; omega)]; rfl)
          have HPL := Lib.hid hP.len
          obtain ⟨ss, hss⟩ : ∃ ss, listP x = ss := ⟨_, rfl⟩
          rw [hss] at HS4 HTA ⊢
          obtain ⟨q, hq⟩ : ∃ q, ss.length = q := ⟨_, rfl⟩
          have HQ := Lib.hid hq
          rw [hq] at HS4 ⊢
          have HS := Lib.hid (HS4.out.below hb5)
          obtain ⟨cb, hcb⟩ : ∃ cb, (!(decide (1 ≤ f ∧ f ≤ 5) && (decide (k = 0) || decide (cmpT (ti s.terms (k - 1)) ⟨f, x, l⟩ < 0)) && decide (ss = [x]) && (ok && !p.isEmpty))) = cb := ⟨_, rfl⟩
          have HCBE := Lib.hid hcb
          have HTB := Lib.hid (show termAt s k = (!cb && p.all (inDocs s.docs)) by
            rw [HTA.out, HLP.out, ← hcb, Bool.not_not]
            cases decide (1 ≤ f ∧ f ≤ 5) <;> cases (decide (k = 0) || decide (cmpT (ti s.terms (k - 1)) ⟨f, x, l⟩ < 0)) <;> cases decide (ss = [x]) <;> cases ok <;> cases p.isEmpty <;> simp)
          clear hss hq hcb hP hlp hdec hb5 HTA HLP HS4 b0 b1 b2 d2 HB4 HB4' HBOX hb4 x0
          go_wp2
          go_cut [103] (fun v wc => v = .bool cb ∧ Hid (Below w5.heap.size w5 wc))
          case first =>
            by_cases f1 : 1 ≤ f ∧ f ≤ 5
            · have HIN := Lib.hid (show inB f 1 5 = true from decide_eq_true f1)
              have HA1 := Lib.hid (show decide (1 ≤ f ∧ f ≤ 5) = true from decide_eq_true f1)
              clear f1
              by_cases hk0 : k = 0
              · have hk3 : decide ((0 : Int) < (k : Int)) = false := decide_eq_false (by omega)
                have hk4 : decide (0 < k) = false := decide_eq_false (by omega)
                have HB1T := Lib.hid (show (decide (k = 0) || decide (cmpT (ti s.terms (k - 1)) ⟨f, x, l⟩ < 0)) = true by rw [decide_eq_true hk0]; rfl)
                clear hk0
                as_aux_lemma =>
                  have HBX6 := Lib.hid (Below.drew (Below.refl w5.heap.size w5))
                  refine wp_region_run (by kernel_rfl) ?_
                  refine AnyS.seg (fuel := 21) 0 20 (by kernel_rfl) (by kernel_rfl) (by kernel_rfl) ?_
                  simp only [List.drop_zero, List.take_succ_cons, List.take_zero]
                  iterate 20 (refine stillS_step (fun K hK => ?_); go_simp; (first | refine hK _ ?_ | refine ⟨_, rin_eq f 1 5 true _ HIN.out, hK _ ?_⟩); clear hK K)
                  refine stillS_nil ?_
                  go_simp
                  by_cases hq1 : q = 1
                  · subst hq1
                    obtain ⟨ad4, rfl, hbl4, c40⟩ := HS.out.at_ (k := 0) (by rw [HQ.out]; omega)
                    have hadd : ad4.add 0 = ad4 := by unfold Addr.add; rfl
                    rw [hadd] at c40
                    obtain ⟨y, hsy⟩ : ∃ y, ss = [y] := by
                      have hl1 := HQ.out
                      match ss, hl1 with
                      | [a], _ => exact ⟨a, rfl⟩
                    subst hsy
                    have c41 : w5.cell? ad4 = some (.string (ba y)) := c40
                    clear hadd c40
                    refine AnyS.seg (fuel := 16) 20 5 (by kernel_rfl) (by kernel_rfl) (by kernel_rfl) ?_
                    simp only [List.drop_succ_cons, List.drop_zero, List.take_succ_cons, List.take_zero]
                    iterate 5 (refine stillS_step (fun K hK => ?_); go_simp; (first | refine hK _ ?_ | refine ⟨_, rin_eq f 1 5 true _ HIN.out, hK _ ?_⟩); clear hK K)
                    refine stillS_nil ?_
                    go_simp

                    by_cases hyx : y = x
                    · have HYX := Lib.hid hyx
                      subst hyx
                      have hne3 : ((ba y).toList != (ba y).toList) = false := by simp
                      refine AnyS.seg (fuel := 8) 25 8 (by kernel_rfl) (by kernel_rfl) (by kernel_rfl) ?_
                      simp only [List.drop_succ_cons, List.drop_zero, List.take_succ_cons, List.take_zero]
                      iterate 8 (refine stillS_step (fun K hK => ?_); go_simp; (first | refine hK _ ?_ | refine ⟨_, rin_eq f 1 5 true _ HIN.out, hK _ ?_⟩); clear hK K)
                      refine stillS_nil ?_
                      go_simp

                      cases ok
                      · have HCB := Lib.hid (show true = cb by rw [← HCBE.out]; simp)
                        refine AnyS.seg (fuel := 0) 33 8 (by kernel_rfl) (by kernel_rfl) (by kernel_rfl) ?_
                        simp only [List.drop_succ_cons, List.drop_zero, List.take_succ_cons, List.take_zero]
                        iterate 8 (refine stillS_step (fun K hK => ?_); go_simp; (first | refine hK _ ?_ | refine ⟨_, rin_eq f 1 5 true _ HIN.out, hK _ ?_⟩); clear hK K)
                        refine stillS_nil ?_
                        go_simp
                        refine AnyS.done (by kernel_rfl) ?_
                        go_wp2
                        go_meet
                        case rel => exact ⟨by rw [← HCB.out], HBX6⟩

                      · skip
                        refine AnyS.seg (fuel := 4) 33 4 (by kernel_rfl) (by kernel_rfl) (by kernel_rfl) ?_
                        simp only [List.drop_succ_cons, List.drop_zero, List.take_succ_cons, List.take_zero]
                        iterate 4 (refine stillS_step (fun K hK => ?_); go_simp; (first | refine hK _ ?_ | refine ⟨_, rin_eq f 1 5 true _ HIN.out, hK _ ?_⟩); clear hK K)
                        refine stillS_nil ?_
                        go_simp

                        by_cases hp0 : n9 = 0
                        · have hp1 : ((n9 : Int) == 0) = true := by simp [hp0]
                          have HCB := Lib.hid (show true = cb by rw [← HCBE.out, HPN.out, decide_eq_true hp0]; simp)
                          clear hp0
                          refine AnyS.seg (fuel := 0) 37 4 (by kernel_rfl) (by kernel_rfl) (by kernel_rfl) ?_
                          simp only [List.drop_succ_cons, List.drop_zero, List.take_succ_cons, List.take_zero]
                          iterate 4 (refine stillS_step (fun K hK => ?_); go_simp; (first | refine hK _ ?_ | refine ⟨_, rin_eq f 1 5 true _ HIN.out, hK _ ?_⟩); clear hK K)
                          refine stillS_nil ?_
                          go_simp
                          refine AnyS.done (by kernel_rfl) ?_
                          go_wp2
                          go_meet
                          case rel => exact ⟨by rw [← HCB.out], HBX6⟩

                        · have hp1 : ((n9 : Int) == 0) = false := by simpa using hp0
                          have HCB := Lib.hid (show false = cb by rw [← HCBE.out, HPN.out, decide_eq_false hp0]; simp [HA1.out, HB1T.out])
                          clear hp0
                          refine AnyS.seg (fuel := 0) 37 4 (by kernel_rfl) (by kernel_rfl) (by kernel_rfl) ?_
                          simp only [List.drop_succ_cons, List.drop_zero, List.take_succ_cons, List.take_zero]
                          iterate 4 (refine stillS_step (fun K hK => ?_); go_simp; (first | refine hK _ ?_ | refine ⟨_, rin_eq f 1 5 true _ HIN.out, hK _ ?_⟩); clear hK K)
                          refine stillS_nil ?_
                          go_simp
                          refine AnyS.done (by kernel_rfl) ?_
                          go_wp2
                          go_meet
                          case rel => exact ⟨by rw [← HCB.out], HBX6⟩

                    · have hts : ¬ (ba y).toList = (ba x).toList := by rw [ba_toList, ba_toList]; exact hyx
                      have HCB := Lib.hid (show true = cb by rw [← HCBE.out]; simp [hyx])
                      have hts2 : ((ba y).toList == (ba x).toList) = false := by simpa using hts
                      obtain ⟨yb, hyb⟩ : ∃ yb, ba y = yb := ⟨_, rfl⟩
                      obtain ⟨xb, hxb⟩ : ∃ xb, ba x = xb := ⟨_, rfl⟩
                      rw [hyb] at hts2 c41
                      rw [hxb] at hts2 e1
                      have hne2 : (yb.toList != xb.toList) = true := by simp [bne, hts2]
                      clear hyx hyb hxb hts
                      refine AnyS.seg (fuel := 0) 25 16 (by kernel_rfl) (by kernel_rfl) (by kernel_rfl) ?_
                      simp only [List.drop_succ_cons, List.drop_zero, List.take_succ_cons, List.take_zero]
                      iterate 16 (refine stillS_step (fun K hK => ?_); go_simp; (first | refine hK _ ?_ | refine ⟨_, rin_eq f 1 5 true _ HIN.out, hK _ ?_⟩); clear hK K)
                      refine stillS_nil ?_
                      go_simp
                      refine AnyS.done (by kernel_rfl) ?_
                      go_wp2
                      go_meet
                      case rel => exact ⟨by rw [← HCB.out], HBX6⟩

                  · have hq2 : ¬ (q : Int) = 1 := by omega
                    have hq3 : ((q : Int) == 1) = false := by simpa using hq2
                    have hq4 : ((q : Int) != 1) = true := by simp [bne, hq3]
                    have HCB := Lib.hid (show true = cb by
                      have hnx : ss ≠ [x] := by intro e; have := HQ.out; rw [e] at this; simp at this; omega
                      rw [← HCBE.out]; simp [hnx])
                    clear hq1
                    refine AnyS.seg (fuel := 0) 20 21 (by kernel_rfl) (by kernel_rfl) (by kernel_rfl) ?_
                    simp only [List.drop_succ_cons, List.drop_zero, List.take_succ_cons, List.take_zero]
                    iterate 21 (refine stillS_step (fun K hK => ?_); go_simp; (first | refine hK _ ?_ | refine ⟨_, rin_eq f 1 5 true _ HIN.out, hK _ ?_⟩); clear hK K)
                    refine stillS_nil ?_
                    go_simp
                    refine AnyS.done (by kernel_rfl) ?_
                    go_wp2
                    go_meet
                    case rel => exact ⟨by rw [← HCB.out], HBX6⟩

              · have hk3 : decide ((0 : Int) < (k : Int)) = true := decide_eq_true (by omega)
                have hk4 : decide (0 < k) = true := decide_eq_true (by omega)
                obtain ⟨j, hj⟩ : ∃ j, k - 1 = j := ⟨_, rfl⟩
                obtain ⟨ad', e', hbl', p0, p1, p2, -⟩ := (H.out.terms.below HBA5.out).at_ (show j < n by omega)
                have e9 := Option.some.inj e'
                subst e9
                have hj1 : (k : Int) - 1 = (j : Int) := by omega
                have wj : IntKind.i64.wrap ((k : Int) - 1) = (j : Int) := by rw [hj1]; exact IntWalk.i64_in _ (by omega)
                have hj0 : (0 : Int) ≤ (j : Int) := by omega
                have hjm : (j : Int) < (n : Int) := by omega
                have hjn : j < n := by omega
                have wjj : IntKind.i64.wrap (j : Int) = (j : Int) := IntWalk.i64_in _ (by omega)
                rw [hj] at HCBE
                obtain ⟨t2, ht2⟩ : ∃ t2, ti s.terms j = t2 := ⟨_, rfl⟩
                rw [ht2] at p0 p1 p2 HCBE
                obtain ⟨f', x', l'⟩ := t2
                dsimp only at p0 p1 p2
                clear ht2 e' hj
                by_cases hah : cmpT ⟨f', x', l'⟩ ⟨f, x, l⟩ < 0
                · have HAH := Lib.hid (show aheadB ⟨f', x', l'⟩ ⟨f, x, l⟩ = true from decide_eq_true hah)
                  have HB1T := Lib.hid (show (decide (k = 0) || decide (cmpT ⟨f', x', l'⟩ ⟨f, x, l⟩ < 0)) = true by rw [decide_eq_true hah, Bool.or_true])
                  clear hah hk0
                  as_aux_lemma =>
                    refine wp_region_run (by kernel_rfl) ?_
                    refine AnyS.seg (fuel := 26) 0 15 (by kernel_rfl) (by kernel_rfl) (by kernel_rfl) ?_
                    simp only [List.drop_zero, List.take_succ_cons, List.take_zero]
                    iterate 15 (refine stillS_step (fun K hK => ?_); go_simp; (first | refine hK _ ?_ | refine ⟨_, rin_eq f 1 5 true _ HIN.out, hK _ ?_⟩); clear hK K)
                    refine stillS_nil ?_
                    go_simp
                    refine ⟨wpAny_ready (rs := [15]) (by kernel_rfl) (by simp) ?_⟩
                    refine AllReady.cons rfl (fun K hK => ?_) AllReady.nil
                    go_simp
                    refine (rahead_eq f' f x' x l' l true w5.drew HAH.out).mono ?_
                    rintro e w6 ⟨rfl, hb6⟩
                    have HB6 := Lib.hid ((Below.refl w5.heap.size w5).drew.trans hb6)
                    have HBX6 := HB6
                    have f0 : w6.cell? ⟨wr.heap.size, 0, none⟩ = some (.int .i64 f) := (HB6.out.cell (p := ⟨wr.heap.size, 0, none⟩) (by show wr.heap.size < _; omega)).trans e0
                    have f1 : w6.cell? ⟨wr.heap.size, 1, none⟩ = some (.string (ba x)) := (HB6.out.cell (p := ⟨wr.heap.size, 1, none⟩) (by show wr.heap.size < _; omega)).trans e1
                    clear hb6
                    refine hK _ _ ?_
                    clear hK K
                    refine AnyS.out ?_
                    go_simp
                    refine AnyS.seg (fuel := 21) 16 4 (by kernel_rfl) (by kernel_rfl) (by kernel_rfl) ?_
                    simp only [List.drop_succ_cons, List.drop_zero, List.take_succ_cons, List.take_zero]
                    iterate 4 (refine stillS_step (fun K hK => ?_); go_simp; (first | refine hK _ ?_ | refine ⟨_, rin_eq f 1 5 true _ HIN.out, hK _ ?_⟩); clear hK K)
                    refine stillS_nil ?_
                    go_simp
                    by_cases hq1 : q = 1
                    · subst hq1
                      obtain ⟨ad4, rfl, hbl4, c40⟩ := HS.out.at_ (k := 0) (by rw [HQ.out]; omega)
                      have hadd : ad4.add 0 = ad4 := by unfold Addr.add; rfl
                      rw [hadd] at c40
                      obtain ⟨y, hsy⟩ : ∃ y, ss = [y] := by
                        have hl1 := HQ.out
                        match ss, hl1 with
                        | [a], _ => exact ⟨a, rfl⟩
                      subst hsy
                      have c41 : w5.cell? ad4 = some (.string (ba y)) := c40
                      clear hadd c40
                      refine AnyS.seg (fuel := 16) 20 5 (by kernel_rfl) (by kernel_rfl) (by kernel_rfl) ?_
                      simp only [List.drop_succ_cons, List.drop_zero, List.take_succ_cons, List.take_zero]
                      iterate 5 (refine stillS_step (fun K hK => ?_); go_simp; (first | refine hK _ ?_ | refine ⟨_, rin_eq f 1 5 true _ HIN.out, hK _ ?_⟩); clear hK K)
                      refine stillS_nil ?_
                      go_simp

                      by_cases hyx : y = x
                      · have HYX := Lib.hid hyx
                        subst hyx
                        have hne3 : ((ba y).toList != (ba y).toList) = false := by simp
                        have f2 : w6.cell? ad4 = some (.string (ba y)) := (HB6.out.cell (p := ad4) (by omega)).trans c41
                        refine AnyS.seg (fuel := 8) 25 8 (by kernel_rfl) (by kernel_rfl) (by kernel_rfl) ?_
                        simp only [List.drop_succ_cons, List.drop_zero, List.take_succ_cons, List.take_zero]
                        iterate 8 (refine stillS_step (fun K hK => ?_); go_simp; (first | refine hK _ ?_ | refine ⟨_, rin_eq f 1 5 true _ HIN.out, hK _ ?_⟩); clear hK K)
                        refine stillS_nil ?_
                        go_simp

                        cases ok
                        · have HCB := Lib.hid (show true = cb by rw [← HCBE.out]; simp)
                          refine AnyS.seg (fuel := 0) 33 8 (by kernel_rfl) (by kernel_rfl) (by kernel_rfl) ?_
                          simp only [List.drop_succ_cons, List.drop_zero, List.take_succ_cons, List.take_zero]
                          iterate 8 (refine stillS_step (fun K hK => ?_); go_simp; (first | refine hK _ ?_ | refine ⟨_, rin_eq f 1 5 true _ HIN.out, hK _ ?_⟩); clear hK K)
                          refine stillS_nil ?_
                          go_simp
                          refine AnyS.done (by kernel_rfl) ?_
                          go_wp2
                          go_meet
                          case rel => exact ⟨by rw [← HCB.out], HBX6⟩

                        · skip
                          refine AnyS.seg (fuel := 4) 33 4 (by kernel_rfl) (by kernel_rfl) (by kernel_rfl) ?_
                          simp only [List.drop_succ_cons, List.drop_zero, List.take_succ_cons, List.take_zero]
                          iterate 4 (refine stillS_step (fun K hK => ?_); go_simp; (first | refine hK _ ?_ | refine ⟨_, rin_eq f 1 5 true _ HIN.out, hK _ ?_⟩); clear hK K)
                          refine stillS_nil ?_
                          go_simp

                          by_cases hp0 : n9 = 0
                          · have hp1 : ((n9 : Int) == 0) = true := by simp [hp0]
                            have HCB := Lib.hid (show true = cb by rw [← HCBE.out, HPN.out, decide_eq_true hp0]; simp)
                            clear hp0
                            refine AnyS.seg (fuel := 0) 37 4 (by kernel_rfl) (by kernel_rfl) (by kernel_rfl) ?_
                            simp only [List.drop_succ_cons, List.drop_zero, List.take_succ_cons, List.take_zero]
                            iterate 4 (refine stillS_step (fun K hK => ?_); go_simp; (first | refine hK _ ?_ | refine ⟨_, rin_eq f 1 5 true _ HIN.out, hK _ ?_⟩); clear hK K)
                            refine stillS_nil ?_
                            go_simp
                            refine AnyS.done (by kernel_rfl) ?_
                            go_wp2
                            go_meet
                            case rel => exact ⟨by rw [← HCB.out], HBX6⟩

                          · have hp1 : ((n9 : Int) == 0) = false := by simpa using hp0
                            have HCB := Lib.hid (show false = cb by rw [← HCBE.out, HPN.out, decide_eq_false hp0]; simp [HA1.out, HB1T.out])
                            clear hp0
                            refine AnyS.seg (fuel := 0) 37 4 (by kernel_rfl) (by kernel_rfl) (by kernel_rfl) ?_
                            simp only [List.drop_succ_cons, List.drop_zero, List.take_succ_cons, List.take_zero]
                            iterate 4 (refine stillS_step (fun K hK => ?_); go_simp; (first | refine hK _ ?_ | refine ⟨_, rin_eq f 1 5 true _ HIN.out, hK _ ?_⟩); clear hK K)
                            refine stillS_nil ?_
                            go_simp
                            refine AnyS.done (by kernel_rfl) ?_
                            go_wp2
                            go_meet
                            case rel => exact ⟨by rw [← HCB.out], HBX6⟩

                      · have hts : ¬ (ba y).toList = (ba x).toList := by rw [ba_toList, ba_toList]; exact hyx
                        have HCB := Lib.hid (show true = cb by rw [← HCBE.out]; simp [hyx])
                        have hts2 : ((ba y).toList == (ba x).toList) = false := by simpa using hts
                        obtain ⟨yb, hyb⟩ : ∃ yb, ba y = yb := ⟨_, rfl⟩
                        obtain ⟨xb, hxb⟩ : ∃ xb, ba x = xb := ⟨_, rfl⟩
                        rw [hyb] at hts2 c41
                        rw [hxb] at hts2 e1 f1
                        have hne2 : (yb.toList != xb.toList) = true := by simp [bne, hts2]
                        clear hyx hyb hxb hts
                        have f2 : w6.cell? ad4 = some (.string yb) := (HB6.out.cell (p := ad4) (by omega)).trans c41
                        refine AnyS.seg (fuel := 0) 25 16 (by kernel_rfl) (by kernel_rfl) (by kernel_rfl) ?_
                        simp only [List.drop_succ_cons, List.drop_zero, List.take_succ_cons, List.take_zero]
                        iterate 16 (refine stillS_step (fun K hK => ?_); go_simp; (first | refine hK _ ?_ | refine ⟨_, rin_eq f 1 5 true _ HIN.out, hK _ ?_⟩); clear hK K)
                        refine stillS_nil ?_
                        go_simp
                        refine AnyS.done (by kernel_rfl) ?_
                        go_wp2
                        go_meet
                        case rel => exact ⟨by rw [← HCB.out], HBX6⟩

                    · have hq2 : ¬ (q : Int) = 1 := by omega
                      have hq3 : ((q : Int) == 1) = false := by simpa using hq2
                      have hq4 : ((q : Int) != 1) = true := by simp [bne, hq3]
                      have HCB := Lib.hid (show true = cb by
                        have hnx : ss ≠ [x] := by intro e; have := HQ.out; rw [e] at this; simp at this; omega
                        rw [← HCBE.out]; simp [hnx])
                      clear hq1
                      refine AnyS.seg (fuel := 0) 20 21 (by kernel_rfl) (by kernel_rfl) (by kernel_rfl) ?_
                      simp only [List.drop_succ_cons, List.drop_zero, List.take_succ_cons, List.take_zero]
                      iterate 21 (refine stillS_step (fun K hK => ?_); go_simp; (first | refine hK _ ?_ | refine ⟨_, rin_eq f 1 5 true _ HIN.out, hK _ ?_⟩); clear hK K)
                      refine stillS_nil ?_
                      go_simp
                      refine AnyS.done (by kernel_rfl) ?_
                      go_wp2
                      go_meet
                      case rel => exact ⟨by rw [← HCB.out], HBX6⟩

                · have HAH := Lib.hid (show aheadB ⟨f', x', l'⟩ ⟨f, x, l⟩ = false from decide_eq_false hah)
                  have HCB := Lib.hid (show true = cb by rw [← HCBE.out, decide_eq_false hah, decide_eq_false hk0]; simp)
                  clear hah hk0
                  as_aux_lemma =>
                    refine wp_region_run (by kernel_rfl) ?_
                    refine AnyS.seg (fuel := 26) 0 15 (by kernel_rfl) (by kernel_rfl) (by kernel_rfl) ?_
                    simp only [List.drop_zero, List.take_succ_cons, List.take_zero]
                    iterate 15 (refine stillS_step (fun K hK => ?_); go_simp; (first | refine hK _ ?_ | refine ⟨_, rin_eq f 1 5 true _ HIN.out, hK _ ?_⟩); clear hK K)
                    refine stillS_nil ?_
                    go_simp
                    refine ⟨wpAny_ready (rs := [15]) (by kernel_rfl) (by simp) ?_⟩
                    refine AllReady.cons rfl (fun K hK => ?_) AllReady.nil
                    go_simp
                    refine (rahead_eq f' f x' x l' l false w5.drew HAH.out).mono ?_
                    rintro e w6 ⟨rfl, hb6⟩
                    have HB6 := Lib.hid ((Below.refl w5.heap.size w5).drew.trans hb6)
                    have HBX6 := HB6
                    have f0 : w6.cell? ⟨wr.heap.size, 0, none⟩ = some (.int .i64 f) := (HB6.out.cell (p := ⟨wr.heap.size, 0, none⟩) (by show wr.heap.size < _; omega)).trans e0
                    have f1 : w6.cell? ⟨wr.heap.size, 1, none⟩ = some (.string (ba x)) := (HB6.out.cell (p := ⟨wr.heap.size, 1, none⟩) (by show wr.heap.size < _; omega)).trans e1
                    clear hb6
                    refine hK _ _ ?_
                    clear hK K
                    refine AnyS.out ?_
                    go_simp
                    refine AnyS.seg (fuel := 0) 16 25 (by kernel_rfl) (by kernel_rfl) (by kernel_rfl) ?_
                    simp only [List.drop_succ_cons, List.drop_zero, List.take_succ_cons, List.take_zero]
                    iterate 25 (refine stillS_step (fun K hK => ?_); go_simp; (first | refine hK _ ?_ | refine ⟨_, rin_eq f 1 5 true _ HIN.out, hK _ ?_⟩); clear hK K)
                    refine stillS_nil ?_
                    go_simp
                    refine AnyS.done (by kernel_rfl) ?_
                    go_wp2
                    go_meet
                    case rel => exact ⟨by rw [← HCB.out], HBX6⟩

            · have HIN := Lib.hid (show inB f 1 5 = false from decide_eq_false f1)
              have HCB := Lib.hid (show true = cb by rw [← HCBE.out, decide_eq_false f1]; simp)
              clear f1
              as_aux_lemma =>
                have HBX6 := Lib.hid (Below.drew (Below.refl w5.heap.size w5))
                refine wp_region_run (by kernel_rfl) ?_
                refine AnyS.seg (fuel := 0) 0 41 (by kernel_rfl) (by kernel_rfl) (by kernel_rfl) ?_
                simp only [List.drop_zero, List.take_succ_cons, List.take_zero]
                iterate 41 (refine stillS_step (fun K hK => ?_); go_simp; (first | refine hK _ ?_ | refine ⟨_, rin_eq f 1 5 false _ HIN.out, hK _ ?_⟩); clear hK K)
                refine stillS_nil ?_
                go_simp
                refine AnyS.done (by kernel_rfl) ?_
                go_wp2
                go_meet
                case rel => exact ⟨by rw [← HCB.out], HBX6⟩

          case rest =>
            obtain ⟨rfl, HC⟩ := hcut
            have HBRC := Lib.hid (HBR5.out.trans (HC.out.mono (by omega)))
            have HBAC := Lib.hid (HBA5.out.trans (HC.out.mono HBA5.out.size))
            have hzc := HC.out.size
            have z1 : wc.cell? ⟨g, 1, none⟩ = some (.slice D m d) := (HC.out.cell (p := ⟨g, 1, none⟩) (by show g < _; omega)).trans y1
            cases cb
            · have HTB1 := Lib.hid (show termAt s k = p.all (inDocs s.docs) by rw [HTB.out]; rfl)
              have HPC := Lib.hid ((HP.out.below HC.out).more hzc)
              clear HTB e0 e1 e2 y0 y1
              go_wp2
              go_loopw [9] (fun i wr => ∃ j : Nat, j ≤ n9 ∧ i = .int .i64 (j : Int) ∧ Hid (Below wc.heap.size wc wr) ∧ Hid ((p.take j).all (inDocs s.docs) = true)) (fun i _ => n9 - (intOf i).toNat)
              case atStart => exact ⟨0, Nat.zero_le _, rfl, Lib.hid (Below.refl _ _), Lib.hid (by simp)⟩
              case round =>
                obtain ⟨j, hj, rfl, HBI, HI⟩ := hrel
                have hszi := HBI.out.size
                have z2 : wr.cell? ⟨g, 1, none⟩ = some (.slice D m d) := (HBI.out.cell (p := ⟨g, 1, none⟩) (by show g < _; omega)).trans z1
                by_cases hjn : j < n9
                · have hj2 : (j : Int) < n9 := by omega
                  have hj0 : (0 : Int) ≤ (j : Int) := by omega
                  have hjl : j < p.length := by rw [HPL.out]; exact hjn
                  obtain ⟨adp, X, xx, c2x, rfl, hblp, q0, -, -, -, -, -⟩ := (HPC.out.below HBI.out).2 j hjl
                  have HT := Lib.hid (show (p.take (j + 1)).all (inDocs s.docs) = ((p.take j).all (inDocs s.docs) && s.docs.contains p[j].doc) by
                    rw [List.take_succ_eq_append_getElem hjl, List.all_append]; simp [inDocs])
                  have HIM := Lib.hid (show s.docs.contains p[j].doc = false → p.all (inDocs s.docs) = false from fun h => by
                    cases e : p.all (inDocs s.docs) with
                    | false => rfl
                    | true => have := List.all_eq_true.1 e p[j] (List.getElem_mem hjl); unfold inDocs at this; rw [h] at this; cases this)
                  obtain ⟨z, hz⟩ : ∃ z, p[j].doc = z := ⟨_, rfl⟩
                  rw [hz] at q0 HT HIM
                  have HQ2 := Lib.hid (HHAS.out z wr (HBAC.out.trans (HBI.out.mono HBAC.out.size)))
                  have HQ3 := Lib.hid (fun q => HHAS.out z (wr.drewN q) (Below.drewN (HBAC.out.trans (HBI.out.mono HBAC.out.size)) q))
                  obtain ⟨is, his⟩ : ∃ is, s.docs.contains z = is := ⟨_, rfl⟩
                  rw [his] at HT HIM HQ2
                  simp only [his] at HQ3
                  clear hz his hjl
                  cases is
                  · have HF0 := Lib.hid (HNO.out (by rw [HTB1.out]; exact HIM.out rfl))
                    go_wp2
                    go_quiet ((go_at_call 71; exact Calls.quiet_of_same (HQ3.out _)))
                    go_wp2
                    go_ret
                    exact ⟨by rw [HF0.out]; rfl, Below.drewN (HBAC.out.trans (HBI.out.mono HBAC.out.size)) _⟩
                  · go_wp2
                    go_quiet ((go_at_call 71; exact Calls.quiet_of_same (HQ3.out _)))
                    go_wp2
                    go_roundw
                    case rel => exact ⟨j + 1, by omega, by go_num, Lib.hid (Below.drewN HBI.out _), Lib.hid (by rw [HT.out, HI.out]; rfl)⟩
                    case measure => simp [intOf] <;> omega
                · have HY := Lib.hid (show termAt s k = true by
                    have h1 := HI.out
                    rw [List.take_of_length_le (by rw [HPL.out]; omega)] at h1
                    rw [HTB1.out, h1])
                  go_wp2
                  go_roundw
                  case rel => exact ⟨k + 1, by omega, by go_num, Lib.hid (HBRC.out.trans (HBI.out.mono (by omega))), Lib.hid fun i hi => by
                    rcases Nat.lt_or_ge i k with h | h
                    · exact HK.out i h
                    · have : i = k := by omega
                      subst this; exact HY.out⟩
                  case measure => simp [intOf] <;> omega
            · have HF0 := Lib.hid (HNO.out (by rw [HTB.out]; rfl))
              go_wp2
              go_ret
              exact ⟨by rw [HF0.out]; rfl, HBAC.out⟩
        · obtain rfl : k = n := by omega
          have HY := Lib.hid (rightP_iff.2 ⟨HDK.out, fun j hj => HK.out j (by rw [← HN.out]; exact hj)⟩)
          go_wp2
          go_ret
          exact ⟨by rw [HY.out]; rfl, HBA0.out⟩
end Go.Proofs.YtfinpehbpcckaaaGreatDoor
