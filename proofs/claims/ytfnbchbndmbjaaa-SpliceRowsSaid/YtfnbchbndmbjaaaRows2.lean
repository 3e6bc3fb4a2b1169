/- SpliceRows: the law's walk. -/
import Derived.Test.YtfnbchbndmbjaaaExamples
import Derived.Test.YtfnbchbndmbjaaaPlain3
import Derived.Test.YtfnbchbndmbjaaaRowsParts
namespace Go.Proofs.Ytfnbchbndmbjaaa
open Go.RowKit
set_option linter.unusedVariables false

set_option maxRecDepth 100000 in
set_option maxHeartbeats 4000000 in
theorem rows_main (A : Option Addr) (n c : Nat) (l : List Int) (B : Option Addr) (m d : Nat) (ss : List Spi) (k : Nat) (w : World) (ha : CameIn w A n c l) (hb : CameSpl w B m d ss) (hn : n ≤ 300) (hm : m ≤ 30) (hkm : k ≤ m) :
    Calls Try.prog 8 #[.slice A n c, .slice B m d, .int .i64 k] w fun e w' => e = .returned (.bool true) ∧ Below w.heap.size w w' := by
  obtain ⟨hnc, hc63, ha⟩ := ha
  obtain ⟨hmd, hd63, hb⟩ := hb
  have HMD := Lib.hid hmd
  have HA := Lib.hid ha
  have HB := Lib.hid hb
  have HM := Lib.hid hb.1
  have HN := Lib.hid ha.len
  have hm63 : m ≤ 30 := hm
  have hkd : k ≤ d := by omega
  clear ha hb hc63 hd63
  have hst := fun W => take_spls (A := B) (n := m) (c := d) hkd W
  have hsc := fun W => cut_spls (A := B) (n := m) (c := d) hkm W
  obtain ⟨B2, hB2⟩ : ∃ B2, (if d = k then B else B.map (·.add (k * 3))) = B2 := ⟨_, rfl⟩
  obtain ⟨m2, hm2⟩ : ∃ x, m - k = x := ⟨_, rfl⟩
  obtain ⟨d2, hd2⟩ : ∃ x, d - k = x := ⟨_, rfl⟩
  simp only [hB2, hm2, hd2] at hsc
  have HBC := Lib.hid (show Spis w w.heap.size B2 m2 (ss.drop k) by rw [← hB2, ← hm2]; exact HB.out.cut hmd hkm)
  have hm2' : m2 ≤ 30 := by omega
  clear hB2 hm2 hd2
  go_enter Try.func8, Try.ntmps8
  go_wp2_with fail
  refine (small_any _).mono ?_
  rintro e w1 ⟨rfl, hb1⟩
  have HB1 := Lib.hid hb1
  have HS1 := Lib.hid ((HB.out.below hb1).more hb1.size)
  clear hb1
  go_wp2
  go_loop [8] (fun i => ∃ j : Nat, j ≤ m ∧ i = .int .i64 j ∧ Hid (∀ i s, i < j → ss[i]? = some s → s.add.length ≤ 300)) (fun i => m - (intOf i).toNat)
  case atStart => exact ⟨0, Nat.zero_le _, rfl, fun i s h => absurd h (by omega)⟩
  case round =>
    obtain ⟨j, hj, rfl, hall⟩ := hrel
    by_cases hlt : j < m
    · obtain ⟨ad, s, X, x, cx, rfl, _, hs, _, _, a0, a1, a2, hx1, hx2, hxi⟩ := HS1.out.2 j hlt
      have HSJ := Lib.hid hs
      have HXL := Lib.hid hxi.len
      rw [← add_add'] at a2
      replace a2 : w1.cell? ⟨(ad.add (j * 3)).block, (ad.add (j * 3)).off + 2, none⟩ = _ := a2
      have hx63 : x ≤ 9223372036854775807 := by simp only [maxLen] at hx2; omega
      clear hs a0 a1 hx1 hx2 hxi
      by_cases hx : x ≤ 300
      · go_wp2
        go_round
        case rel => exact ⟨j + 1, by omega, by go_num, fun i s' hi hs' => by
          by_cases e : i = j
          · subst e
            have := HSJ.out.symm.trans hs'
            injection this with this
            subst this
            rw [HXL.out]; exact hx
          · exact hall.out i s' (by omega) hs'⟩
        case measure => simp [intOf] <;> omega
      · go_wp2
        go_ret
        exact ⟨rfl, HB1.out⟩
    · obtain rfl : j = m := by omega
      have hadd3 : ∀ s ∈ ss, s.add.length ≤ 300 := fun s hs => by
        obtain ⟨i, hi, e⟩ := List.getElem_of_mem hs
        exact hall.out i s (by rw [HM.out]; exact hi) (by rw [List.getElem?_eq_getElem hi, e])
      have HADD3 := Lib.hid hadd3
      have HADD := Lib.hid (show ∀ s ∈ ss, s.add.length ≤ 1048576 from fun s hs => by have := hadd3 s hs; omega)
      clear hadd3 hall
      -- was
      have hm0 := OwnInts.made w1 w1.heap.size (Nat.le_refl _)
      have hmB : w1.heap.size ≤ (w1.alloc (.cells #[] 3)).heap.size := by simp
      have hmI : Ints (w1.alloc (.cells #[] 3)) w1.heap.size A n l := ((HA.out.below HB1.out).more HB1.out.size).below ((Below.refl _ _).alloc (Nat.le_refl _) _)
      have hmL : (([] : List Int).length + n) * 8 ≤ 140737488355328 := by simp; omega
      go_wp2_with (at_builtin; go_must (refine wpList_join hm0 hmB hmI hmL rfl (.tmp 52) (.tmp 53) 22 c rfl Try.underlying22 rfl rfl ?_); intro v2 w2 hown2 hg2 hat2; (
        have HB2w := Lib.hid (show Below w1.heap.size w1 w2 from ((Below.refl _ _).alloc (Nat.le_refl _) _).grown hg2 hmB (fun k hk => by
          have e : w1.heap.size = k := by simpa [Value.ownBlock] using hk
          omega))
        obtain ⟨A2, c2, e2, _, _, hi2⟩ := hown2.ints
        obtain ⟨n2, hn2⟩ : ∃ x, ([] ++ l).length = x := ⟨_, rfl⟩
        rw [hn2] at e2 hi2
        have hn2n : n2 = n := by rw [← hn2, ← HN.out]; simp
        rw [hn2n] at e2 hi2
        subst e2
        rw [List.nil_append] at hi2
        have HI2 := Lib.hid hi2
        clear hown2 hg2 hat2 hi2 hn2))
      have HB2 := Lib.hid (HB1.out.trans (HB2w.out.mono HB1.out.size))
      -- all
      obtain ⟨r, hr⟩ : ∃ r, app l ss = r := ⟨_, rfl⟩
      obtain ⟨r1, hr1⟩ : ∃ r1, app l (ss.take k) = r1 := ⟨_, rfl⟩
      have hbind : r = r1.bind (fun x => app x (ss.drop k)) := by rw [← hr, ← hr1, ← app_append, List.take_append_drop]
      have hcA := apply_any A B n j c d l ss w2 ((HA.out.below HB2.out).more HB2.out.size) ((HB.out.below HB2.out).more HB2.out.size) (by omega) (by omega) HADD.out
      rw [hr] at hcA
      have hcH := fun w3 (h : Below w.heap.size w w3) => apply_any A B n k c d l (ss.take k) w3 ((HA.out.below h).more h.size) (((HB.out.below h).more h.size).take hkm) (by omega) (by omega) (fun s hs => HADD.out s (List.mem_of_mem_take hs))
      simp only [hr1] at hcH
      have HCA := Lib.hid hcA
      have HCH := Lib.hid hcH
      have HR1 := Lib.hid hr1
      have HBI := Lib.hid hbind
      clear hcA hr hr1 hcH hbind
      obtain ⟨R, hR⟩ : ∃ R, R = r.getD [] := ⟨_, rfl⟩
      obtain ⟨R1, hR1⟩ : ∃ R1, R1 = r1.getD [] := ⟨_, rfl⟩
      have HRD := Lib.hid hR
      have HRD1 := Lib.hid hR1
      clear hR hR1
      go_wp2_with fail
      refine HCA.out.mono ?_
      rintro e w3 ⟨v3, rfl, hown3, hb3⟩
      rw [← HRD.out] at hown3
      obtain ⟨A3, c3, e3, h31, h32, _⟩ := hown3.ints
      obtain ⟨n3, hn3⟩ : ∃ x, R.length = x := ⟨_, rfl⟩
      rw [hn3] at e3
      have hb3n : n3 ≤ 9223372036854775807 := by simp only [maxLen] at h32; omega
      have LC3 := Lib.hid (show n3 ≤ c3 by omega)
      clear h31 h32
      subst e3
      have LEN3 := Lib.hid hn3.symm
      have OWN3 := Lib.hid hown3
      have HB3a := Lib.hid hb3
      have HB3 := Lib.hid (HB2.out.trans (hb3.mono HB2.out.size))
      clear hown3 hb3 hn3
      go_wp2_with fail
      refine (HCH.out w3 HB3.out).mono ?_
      rintro e w4 ⟨v4, rfl, hown4, hb4⟩
      rw [← HRD1.out] at hown4
      obtain ⟨A4, c4, e4, h41, h42, _⟩ := hown4.ints
      obtain ⟨n4, hn4⟩ : ∃ x, R1.length = x := ⟨_, rfl⟩
      rw [hn4] at e4
      have hb4n : n4 ≤ 9223372036854775807 := by simp only [maxLen] at h42; omega
      clear h41 h42
      subst e4
      have LEN4 := Lib.hid hn4.symm
      have OWN4 := Lib.hid hown4
      have HB4 := Lib.hid (HB3.out.trans (hb4.mono HB3.out.size))
      have HB4a := Lib.hid hb4
      have OWN34 := Lib.hid (OWN3.out.block fun k hk => hb4.block k (OWN3.out.1.lt k hk).2)
      clear hown4 hb4 hn4
      go_wp2

      go_loopw [14] (fun i wr => ∃ jj : Nat, jj ≤ n3 ∧ i = .int .i64 jj ∧ OwnInts wr w2.heap.size (.slice A3 n3 c3) (bumps R jj) ∧ w4.grownBy wr (Value.slice A3 n3 c3).ownBlock) (fun i _ => n3 - (intOf i).toNat)
      case atStart => exact ⟨0, Nat.zero_le _, rfl, by rw [bumps_zero]; exact OWN34.out, World.grownBy.refl _ _⟩
      case round =>
        obtain ⟨jj, hjj, rfl, hoj, hgj⟩ := hrel
        by_cases hlj : jj < n3
        · obtain ⟨g, cap, eg, _, _⟩ := hoj.1.form (by rw [bumps_len, ← LEN3.out]; omega)
          injection eg with eg _ _
          subst eg
          have HOJ := Lib.hid hoj
          have HGJ := Lib.hid hgj
          have hln : n3 = (bumps R jj).length := by rw [bumps_len]; exact LEN3.out
          obtain ⟨q1, q2⟩ := hoj.cellAt hln hlj
          rw [bumps_gi R (by rw [← LEN3.out]; exact hlj)] at q1
          have HLN := Lib.hid hln
          obtain ⟨xv, hxv⟩ : ∃ xv, xv = gi R jj := ⟨_, rfl⟩
          rw [← hxv] at q1
          have HXV := Lib.hid hxv
          clear hxv hln hoj hgj
          go_wp2
          go_roundw
          case rel => exact ⟨jj + 1, by omega, by go_num, by
            have h1 := (HOJ.out.stored (j := jj) (y := bump xv) HLN.out (bump_bd xv)).1
            rw [HXV.out, bumps_next R (by rw [← LEN3.out]; exact hlj)] at h1
            rw [HXV.out]
            exact h1, by
            have h1 := (HOJ.out.stored (j := jj) (y := bump xv) HLN.out (bump_bd xv)).2
            exact HGJ.out.trans h1⟩
          case measure => simp [intOf] <;> omega
        · have HOA : Hid (OwnInts wr w2.heap.size (.slice A3 n3 c3) (bumps R R.length)) := by
            have e : jj = R.length := by have := LEN3.out; omega
            rw [← e]; exact hoj
          have HGA := Lib.hid hgj
          have hbase : ∀ k, (Value.slice A3 n3 c3).ownBlock = some k → w2.heap.size ≤ k ∧ k < w3.heap.size := OWN3.out.1.lt
          have hs24 : w2.heap.size ≤ w4.heap.size := Nat.le_trans HB3a.out.size HB4a.out.size
          have HW := Lib.hid ((((HI2.out.below HB3a.out).below (HB4a.out.mono HB3a.out.size)).grown hgj hs24 (fun k hk => (hbase k hk).1)).more (Nat.le_trans hs24 hgj.size))
          have hs02 : w.heap.size ≤ w2.heap.size := HB2.out.size
          have HBR := Lib.hid (show Below w.heap.size w wr from HB4.out.grown hgj HB4.out.size (fun k hk => by have := (hbase k hk).1; omega))
          have HOH := Lib.hid (OWN4.out.block (w' := wr) fun k hk => hgj.block k (OWN4.out.1.lt k hk).2 (fun e => by
            have h1 := (OWN4.out.1.lt k hk).1
            have h2 := (hbase k e.symm).2
            omega))
          clear hoj hgj hbase
          go_wp2_with fail
          refine (same_any A2 A n n c2 c l l wr HW.out ((HA.out.below HBR.out).more HBR.out.size) (by unfold maxLen; omega)).mono ?_
          rintro e w6 ⟨rfl, k6, hw6⟩
          have HB6 := Lib.hid (show Below w.heap.size w w6 by rw [hw6]; exact drewBelow HBR.out k6)
          have HOA6 := Lib.hid (show OwnInts w6 w2.heap.size (.slice A3 n3 c3) (bumps R R.length) by rw [hw6]; exact HOA.out.drewN k6)
          have HOH6 := Lib.hid (show OwnInts w6 w3.heap.size (.slice A4 n4 c4) R1 by rw [hw6]; exact HOH.out.drewN k6)
          clear hw6
          simp only [decide_true]
          cases r1 with
          | none =>
            have hr : r = none := HBI.out
            subst hr
            have hz : ((n4 : Int) == 0) = true := by
              have h1 := LEN4.out
              rw [HRD1.out] at h1
              simp at h1 ⊢
              omega
            go_wp2
            go_ret
            exact ⟨rfl, HB6.out⟩
          | some h =>
            have hR1 : R1 = h := HRD1.out
            subst hR1
            have hl4 : n4 ≤ 1048576 := by
              have h1 := app_len (M := 300) (ss.take k) l R1 (fun s hs => HADD3.out s (List.mem_of_mem_take hs)) HR1.out
              have h2 := HN.out
              have h3 := LEN4.out
              have h4 : (ss.take k).length ≤ 30 := by simp; omega
              have h5 : (ss.take k).length * 300 ≤ 30 * 300 := Nat.mul_le_mul_right _ h4
              omega
            have hcR := apply_any A4 B2 n4 m2 c4 d2 R1 (ss.drop k) w6 (by
              obtain ⟨A', c', e', _, _, hi⟩ := HOH6.out.ints
              have h1 := LEN4.out
              rw [← h1] at e' hi
              injection e' with e1 _ _
              rw [e1]; exact hi) ((HBC.out.below HB6.out).more HB6.out.size) hl4 (by omega) (fun s hs => HADD.out s (List.mem_of_mem_drop hs))
            rw [show app R1 (ss.drop k) = r from HBI.out.symm] at hcR
            have HCR := Lib.hid hcR
            clear hcR
            go_wp2_with fail
            refine HCR.out.mono ?_
            rintro e w7 ⟨v7, rfl, hown7, hb7⟩
            rw [← HRD.out] at hown7
            obtain ⟨A7, c7, e7, h71, h72, _⟩ := hown7.ints
            obtain ⟨n7, hn7⟩ : ∃ x, R.length = x := ⟨_, rfl⟩
            rw [hn7] at e7
            have hb7n : n7 ≤ 9223372036854775807 := by simp only [maxLen] at h72; omega
            have LC7 := Lib.hid (show n7 ≤ c7 by omega)
            clear h71 h72
            subst e7
            have LEN7 := Lib.hid hn7.symm
            have OWN7 := Lib.hid hown7
            have HB7 := Lib.hid (HB6.out.trans (hb7.mono HB6.out.size))
            have HOA7 := Lib.hid (HOA6.out.block fun k hk => hb7.block k (HOA6.out.1.lt k hk).2)
            have HL7 := Lib.hid (fun k hk => (HOA6.out.1.lt k hk).2)
            clear hown7 hb7 hn7
            go_wp2
            go_loopw [17] (fun i wr => ∃ jj : Nat, jj ≤ n7 ∧ i = .int .i64 jj ∧ OwnInts wr w6.heap.size (.slice A7 n7 c7) (bumps R jj) ∧ w7.grownBy wr (Value.slice A7 n7 c7).ownBlock) (fun i _ => n7 - (intOf i).toNat)
            case atStart => exact ⟨0, Nat.zero_le _, rfl, by rw [bumps_zero]; exact OWN7.out, World.grownBy.refl _ _⟩
            case round =>
              obtain ⟨jj, hjj, rfl, hoj, hgj⟩ := hrel
              by_cases hlj : jj < n7
              · obtain ⟨g, cap, eg, _, _⟩ := hoj.1.form (by rw [bumps_len, ← LEN7.out]; omega)
                injection eg with eg _ _
                subst eg
                have HOJ := Lib.hid hoj
                have HGJ := Lib.hid hgj
                have hln : n7 = (bumps R jj).length := by rw [bumps_len]; exact LEN7.out
                obtain ⟨q1, q2⟩ := hoj.cellAt hln hlj
                rw [bumps_gi R (by rw [← LEN7.out]; exact hlj)] at q1
                have HLN := Lib.hid hln
                obtain ⟨xv, hxv⟩ : ∃ xv, xv = gi R jj := ⟨_, rfl⟩
                rw [← hxv] at q1
                have HXV := Lib.hid hxv
                clear hxv hln hoj hgj
                go_wp2
                go_roundw
                case rel => exact ⟨jj + 1, by omega, by go_num, by
                  have h1 := (HOJ.out.stored (j := jj) (y := bump xv) HLN.out (bump_bd xv)).1
                  rw [HXV.out, bumps_next R (by rw [← LEN7.out]; exact hlj)] at h1
                  rw [HXV.out]
                  exact h1, by
                  have h1 := (HOJ.out.stored (j := jj) (y := bump xv) HLN.out (bump_bd xv)).2
                  exact HGJ.out.trans h1⟩
                case measure => simp [intOf] <;> omega
              · have HO7 : Hid (OwnInts wr w6.heap.size (.slice A7 n7 c7) (bumps R R.length)) := by
                  have e : jj = R.length := by have := LEN7.out; omega
                  rw [← e]; exact hoj
                have HO3 := Lib.hid (HOA7.out.block (w' := wr) fun k hk => hgj.block k (HOA7.out.1.lt k hk).2 (fun e => by
                  have h1 := HL7.out k hk
                  have h2 := (OWN7.out.1.lt k e.symm).1
                  omega))
                have HBQ := Lib.hid (show Below w.heap.size w wr from HB7.out.grown hgj HB7.out.size (fun k hk => by have := (OWN7.out.1.lt k hk).1; have := HB6.out.size; omega))
                have HI3 : Hid (Ints wr wr.heap.size A3 n3 (bumps R R.length)) := by
                  obtain ⟨A', c', e', _, _, hi⟩ := HO3.out.ints
                  have h1 := LEN3.out
                  rw [bumps_len, ← h1] at e'
                  rw [bumps_len, ← h1] at hi
                  injection e' with e1 _ _
                  rw [Hid, e1, h1]; rw [h1] at hi; exact hi
                have HI7 : Hid (Ints wr wr.heap.size A7 n7 (bumps R R.length)) := by
                  obtain ⟨A', c', e', _, _, hi⟩ := HO7.out.ints
                  have h1 := LEN7.out
                  rw [bumps_len, ← h1] at e'
                  rw [bumps_len, ← h1] at hi
                  injection e' with e1 _ _
                  rw [Hid, e1, h1]; rw [h1] at hi; exact hi
                have hm3 : n3 ≤ maxLen := by
                  obtain ⟨A', c', e', h1, h2, _⟩ := HO3.out.ints
                  have h3 := LEN3.out
                  rw [bumps_len] at h1
                  omega
                clear hoj hgj
                go_wp2_with fail
                refine (same_any A3 A7 n3 n7 c3 c7 _ _ wr HI3.out HI7.out hm3).mono ?_
                rintro e w9 ⟨rfl, k9, hw9⟩
                have HB9 := Lib.hid (show Below w.heap.size w w9 by rw [hw9]; exact drewBelow HBQ.out k9)
                clear hw9
                simp only [decide_true]
                go_wp2
                go_ret
                exact ⟨rfl, HB9.out⟩
end Go.Proofs.Ytfnbchbndmbjaaa
