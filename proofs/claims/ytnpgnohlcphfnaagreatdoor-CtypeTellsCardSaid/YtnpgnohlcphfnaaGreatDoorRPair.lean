/- Reference 12: the contract of Pair (printed by gen_rpair.py). -/
import Derived.Test.YtnpgnohlcphfnaaGreatDoorRTol
import Derived.Test.YtnpgnohlcphfnaaGreatDoorRCtB
import Derived.Test.YtnpgnohlcphfnaaGreatDoorM13
import Derived.BigQuiet
namespace Go.Proofs.YtnpgnohlcphfnaaGreatDoor
open Go.RowKit
set_option linter.unusedVariables false

/-- The parameter of a row, or false. -/
def RPairPost (w : World) (ts : List Tok) (e : Ending) (w' : World) : Prop := ∃ x b, e = .returned (.tuple #[oneV x, .bool b]) ∧ Below w.heap.size w w' ∧ b = decide ((pairP ts).1 ≠ []) ∧ ((pairP ts).1 ≠ [] → x = ⟨whereP (pairP ts).1, (pairP ts).2⟩)
theorem rpair_fin {w w' : World} {ts : List Tok} {n v m : List UInt8} {z : Int} {b f : Bool} (h : pairP ts = (n, v)) (hw : whereP n = ⟨m, z, b⟩) (hf : f = decide (n ≠ [])) (hb : Below w.heap.size w w') : RPairPost w ts (.returned (.tuple #[.agg #[.string (ba m), .int .i64 z, .bool b, .string (ba v)], .bool f])) w' := by
  refine ⟨⟨⟨m, z, b⟩, v⟩, f, rfl, hb, by rw [h]; exact hf, fun _ => by rw [h]; rw [hw]⟩
theorem rpair_none {w w' : World} {ts : List Tok} (h : pairP ts = ([], [])) (hb : Below w.heap.size w w') : RPairPost w ts (.returned (.tuple #[.agg #[.string ⟨#[]⟩, .int .i64 0, .bool false, .string ⟨#[]⟩], .bool false])) w' := by
  refine ⟨one0, false, rfl, hb, by rw [h]; simp, fun hn => absurd (by rw [h]) hn⟩
/-- The result's box. -/
structure RPBox (W : World) (b : Nat) : Prop where
  d0 : W.cell? ⟨b, 0, none⟩ = some (.string ⟨#[]⟩)
  d1 : W.cell? ⟨b, 1, none⟩ = some (.int .i64 0)
  d2 : W.cell? ⟨b, 2, none⟩ = some (.bool false)
  d3 : W.cell? ⟨b, 3, none⟩ = some (.string ⟨#[]⟩)
  f0 : ∀ i, W.frozen? ⟨b, i, none⟩ = false
  lt : b < W.heap.size
theorem RPBox.below {W W' : World} {b : Nat} (h : RPBox W b) (hb : Below W.heap.size W W') : RPBox W' b := by
  have h0 := hb.block b h.lt
  exact ⟨(World.cell?_of_block h0).trans h.d0, (World.cell?_of_block h0).trans h.d1, (World.cell?_of_block h0).trans h.d2, (World.cell?_of_block h0).trans h.d3,
    fun i => (by have := h.f0 i; unfold World.frozen? at this ⊢; rw [h0]; exact this), Nat.lt_of_lt_of_le h.lt hb.size⟩
/-- The state of Pair's loop. -/
structure RPaRel (w w0 : World) (ts : List Tok) (k : Nat) (a : List UInt8) (wr : World) : Prop where
  eq : pairG [] ts = pairG a (ts.drop k)
  len : a.length ≤ (joinP (ts.take k)).length
  bel : wr = w0
set_option maxRecDepth 100000 in
set_option maxHeartbeats 4000000 in
theorem rpair_any (ts : List Tok) (A : Option Addr) (n c : Nat) (w : World) (hTk : Toks w w.heap.size A n ts) (hn : n ≤ 1000000000) (hnc : n ≤ c) (hcm : c ≤ maxLen) (hj : (joinP ts).length ≤ 500000000) :
    Calls Tryz.prog 73 #[.slice A n c] w (RPairPost w ts) := by
  have HTK := Lib.hid hTk
  obtain rfl : n = ts.length := hTk.1
  obtain ⟨n, hn2⟩ : ∃ n, ts.length = n := ⟨_, rfl⟩
  have HN := Lib.hid hn2
  rw [hn2] at hn hnc ⊢
  unfold maxLen at hcm
  have HNC := Lib.hid (And.intro hnc hcm)
  have HJ := Lib.hid hj
  have HB0 := Lib.hid ((Below.refl w.heap.size w).alloc (Nat.le_refl _) (.cells #[.string ⟨#[]⟩, .int .i64 0, .bool false, .string ⟨#[]⟩] 100))
  have HBX := Lib.hid (show RPBox (w.alloc (.cells #[.string ⟨#[]⟩, .int .i64 0, .bool false, .string ⟨#[]⟩] 100)) w.heap.size by constructor <;> simp)
  clear hTk hn2 hj hnc hcm
  go_enter Tryz.func73, Tryz.ntmps73
  go_wp2
  obtain ⟨w0, hw0⟩ : ∃ w0, w.alloc (.cells #[.string ⟨#[]⟩, .int .i64 0, .bool false, .string ⟨#[]⟩] 100) = w0 := ⟨_, rfl⟩
  rw [hw0] at HB0 HBX ⊢
  clear hw0
  have hz0 : w.heap.size ≤ w0.heap.size := HB0.out.size
  have HT0 := Lib.hid ((HTK.out.below HB0.out).more hz0)
  go_loopw [4, 5, 6] (fun o i cc wr => ∃ (k : Nat) (a : List UInt8) (y : Value), cc = y ∧ k ≤ n ∧ i = .int .i64 (k : Int) ∧ o = .string (ba a) ∧ Hid (RPaRel w w0 ts k a wr)) (fun _ i _ _ => n - (intOf i).toNat)
  case atStart => exact ⟨0, [], _, rfl, Nat.zero_le _, rfl, rfl, Lib.hid ⟨rfl, by simp, rfl⟩⟩
  case round =>
    obtain ⟨k, a, y0, rfl, hk, rfl, rfl, HR⟩ := hrel
    obtain rfl := HR.out.bel
    by_cases hlt : k < n
    · have hk2 : (k : Int) < n := by omega
      have hkl : k < ts.length := by rw [HN.out]; exact hlt
      obtain ⟨ad, rfl, hbl, c0, c1, c2⟩ := HT0.out.2 k hkl
      have heq := HR.out.eq
      rw [List.drop_eq_getElem_cons hkl] at heq
      have HEQ := Lib.hid heq
      have HST := Lib.hid (join_step ts k hkl)
      have htl := text_le hkl
      have hle := join_le ts (k + 1)
      have hal := HR.out.len
      clear heq c2
      obtain ⟨t, ht⟩ : ∃ t, ts[k] = t := ⟨_, rfl⟩
      rw [ht] at c0 c1 HEQ HST htl
      have htx : t.text.length ≤ 500000000 := by have := HJ.out; omega
      have hax : a.length + t.text.length ≤ 500000000 := by
        have h1 := HJ.out
        rw [HST.out, List.length_append] at hle
        omega
      have HAX := Lib.hid hax
      have HFI := Lib.hid (rfind_any t.text 61 wr (by omega))
      have HAL := Lib.hid hal
      clear ht htl hle hal hax HR
      by_cases hgo : t.kind = 1 ∧ (cutV 61 t.text).2.2 = true
      · obtain ⟨hk1, hz⟩ := hgo
        obtain ⟨⟨b1, b2⟩, hcp⟩ : ∃ q, cutP 61 t.text = some q := by
          cases hc : cutP 61 t.text with
          | none => unfold cutV at hz; rw [hc] at hz; cases hz
          | some q => exact ⟨q, rfl⟩
        have hcv : cutV 61 t.text = (b1, b2, true) := by unfold cutV; rw [hcp]
        have hfv : findV 61 t.text = (b1.length : Int) := by unfold findV; rw [hcp]
        rw [hfv] at HFI
        have HPP := Lib.hid (show pairP ts = (smallP (a ++ b1), restV b2 (ts.drop (k + 1))) by
          unfold pairP
          rw [HEQ.out, pairG_hit hk1 hcv]
          rfl)
        have g1 : (t.kind != 1) = false := by simp [hk1]
        have hla := (cutP_some hcp).1
        have hlen : t.text.length = b1.length + 1 + b2.length := by rw [hla, List.length_append, List.length_cons]; omega
        have hx1 : (ba t.text).extract 0 b1.length = ba b1 := by rw [ba_cut, hla]; simp
        have hx2 : (ba t.text).extract (b1.length + 1) (ba t.text).size = ba b2 := by rw [ba_drop, hla]; simp
        have hap := ba_append a b1
        have hln1 : ¬ 9223372036854775807 < (ba a).size + (ba b1).size := by rw [ba_size, ba_size]; have := HAX.out; omega
        have hsl : (a ++ b1).length ≤ 1000000000 := by rw [List.length_append]; have := HAX.out; omega
        obtain ⟨nm, hnm⟩ : ∃ x, a ++ b1 = x := ⟨_, rfl⟩
        rw [hnm] at hap HPP hsl
        have HSM := Lib.hid (rsmall_any nm wr hsl)
        have HSL := Lib.hid (show (smallP nm).length ≤ 1000000000 by rw [smallP_len]; exact hsl)
        obtain ⟨sn, hsn⟩ : ∃ x, smallP nm = x := ⟨_, rfl⟩
        unfold StrB at HSM
        rw [hsn] at HSM HSL HPP
        obtain ⟨be, hbe⟩ : ∃ b, (ba sn).toList.isEmpty = b := ⟨_, rfl⟩
        have HBEE := Lib.hid (show (!be) = decide (sn ≠ []) by rw [← hbe, ba_toList]; cases sn <;> simp)
        have HTO := Lib.hid (fun v W => rtold_any sn v W HSL.out)
        unfold ToldPost oneV at HTO
        obtain ⟨⟨pm, pz, pb⟩, hwp⟩ : ∃ q, whereP sn = q := ⟨_, rfl⟩
        have HWP := Lib.hid hwp
        simp only [hwp] at HTO
        clear hwp
        obtain ⟨M, hM⟩ : ∃ M, b1.length = M := ⟨_, rfl⟩
        obtain ⟨TL, hTL⟩ : ∃ TL, M + 1 + b2.length = TL := ⟨_, rfl⟩
        have HTL := Lib.hid hTL
        have htsz : ((ba t.text).size : Int) = (TL : Int) := by rw [ba_size, hlen, hM, hTL]
        rw [hM] at HFI hx1 hx2
        have HMN := Lib.hid (show M ≤ 500000000 by have := HAX.out; omega)
        have hM0 : ¬ (M : Int) < 0 := by omega
        have hM1 : (M : Int) ≤ (TL : Int) := by omega
        have hM2 : (M : Int) + 1 ≤ (TL : Int) := by omega
        have hM4 : (0 : Int) ≤ (M : Int) + 1 := by omega
        have hM5 : ((M : Int) + 1).toNat = M + 1 := by omega
        have hM6 : IntKind.i64.wrap ((M : Int) + 1) = (M : Int) + 1 := IntWalk.i64_in _ (by have := HMN.out; omega)
        have hMM : (M : Int) ≤ 500000000 := by omega
        have hM3 : (0 : Int) ≤ (M : Int) := by omega
        have HB2L := Lib.hid (show b2.length ≤ 500000000 by have := HAX.out; omega)
        clear hz hcp hcv hfv hk1 hla hlen hnm hsl hsn hM hTL
        go_wp2_with fail
        refine HFI.out.mono ?_
        rintro e w2 ⟨rfl, hw⟩
        have hw2 := hw.symm
        subst hw2
        clear hw
        go_wp2_with fail
        refine HSM.out.mono ?_
        rintro e w2 ⟨rfl, hb2⟩
        have e0 := (hb2.cell hbl).trans c0
        have e1 := (hb2.cell (p := ⟨(ad.add (k * 2)).block, (ad.add (k * 2)).off + 1, none⟩) hbl).trans c1
        have HB2 := Lib.hid hb2
        have hz2 := hb2.size
        have HBW := Lib.hid (HB0.out.trans (hb2.mono hz0))
        have HBX2 := Lib.hid (HBX.out.below hb2)
        clear hb2 c0 c1 hap hln1 hx1
        have hk0 : (0 : Int) ≤ (k : Int) := by omega
        have hki : (k : Int) ≤ 1000000000 := by omega
        have hkn : (k : Int) + 1 ≤ (n : Int) := by omega
        have hkn2 : k + 1 ≤ n := by omega
        have hw1 : IntKind.i64.wrap ((k : Int) + 1) = (k : Int) + 1 := IntWalk.i64_in _ (by omega)
        have ht1 : ((k : Int) + 1).toNat = k + 1 := by omega
        have hw2 : (0 : Int) ≤ (k : Int) + 1 := by omega
        by_cases hk3 : k + 1 < n
        · have hce : ¬ c = k + 1 := by have := HNC.out.1; omega
          have hk1n : k + 1 < ts.length := by rw [HN.out]; exact hk3
          have hkk : (k : Int) + 1 < (n : Int) := by omega
          have HTD := Lib.hid (show ∀ (W' : World), Below wr.heap.size wr W' → Toks W' wr.heap.size (some (ad.add ((k + 1) * 2))) (n - (k + 1)) (ts.drop (k + 1)) from fun W' hb => by
            have h := (HT0.out.below hb).cutB (k + 1) (by rw [HN.out]; omega)
            rw [HN.out] at h
            exact h)
          have HTJ := Lib.hid (show (joinP (ts.drop (k + 1))).length ≤ 1000000000 by have := join_drop_le ts (k + 1); have := HJ.out; omega)
          have HTX := Lib.hid (fun W' hb c0 => rtext_any (ts.drop (k + 1)) (some (ad.add ((k + 1) * 2))) (n - (k + 1)) c0 W' ((HTD.out W' hb).more hb.size) (by omega) HTJ.out)
          have HJB := Lib.hid (show (joinP (ts.drop (k + 1))).length ≤ 500000000 by have := join_drop_le ts (k + 1); have := HJ.out; omega)
          have hul := text_le hk1n
          obtain ⟨ad2, q2, -, d0, d1, -⟩ := (HT0.out.below HB2.out).2 (k + 1) hk1n
          injection q2 with q2
          subst q2
          have HDR := Lib.hid (List.drop_eq_getElem_cons hk1n)
          obtain ⟨u, hu⟩ : ∃ u, ts[k + 1] = u := ⟨_, rfl⟩
          rw [hu] at d0 d1 hul HDR
          have HUN := Lib.hid (show u.text.length ≤ 1000000000 by have := HJ.out; omega)
          obtain ⟨td, htd⟩ : ∃ td, ts.drop (k + 1) = td := ⟨_, rfl⟩
          rw [htd] at HDR HJB HPP
          simp only [htd] at HTX
          have hap := ba_append b2 (joinP td)
          have hln : ¬ 9223372036854775807 < (ba b2).size + (ba (joinP td)).size := by rw [ba_size, ba_size]; have := HB2L.out; have := HJB.out; omega
          clear hu hul hk1n htd
          obtain ⟨V, hV⟩ : ∃ V, b2 ++ joinP td = V := ⟨_, rfl⟩
          rw [hV] at hap
          have HVV := Lib.hid hV
          clear hV
          by_cases hb2e : b2 = []
          · have HB2E := Lib.hid hb2e
            have g4 : ((M : Int) + 1 == (TL : Int)) = true := by have h1 := HTL.out; have h0 : b2.length = 0 := (by rw [hb2e]; rfl); exact beq_iff_eq.2 (by omega)
            by_cases hq : u.kind = 2
            · have g5 : (u.kind == 2) = true := by simp [hq]
              have HRV := Lib.hid (show restV b2 td = meanP u by rw [HB2E.out, HDR.out, restV_quoted hq])
              clear hq hb2e
              go_wp2
              go_quiet ((go_at_call 36; exact Calls.quiet_of_same (HTX.out _ (by first | exact HB2.out | exact HB2.out.drew | exact below_drewN HB2.out _) _)))
              go_wp2_with fail
              refine (rvalue_any u (w2.drewN nq) HUN.out).mono ?_
              rintro e w4 ⟨rfl, hb4⟩
              have HB4 := Lib.hid ((below_drewN HBW.out nq).trans (hb4.mono (below_drewN HBW.out nq).size))
              have HX4 := Lib.hid ((HBX2.out.below (below_drewN (Below.refl _ _) nq)).below hb4)
              clear hb4
              go_wp2_with fail
              refine (HTO.out (meanP u) w4).mono ?_
              rintro e w5 ⟨rfl, hb5⟩
              have HX5 := Lib.hid (HX4.out.below hb5)
              have HB5 := Lib.hid (HB4.out.trans (hb5.mono HB4.out.size))
              obtain ⟨d0, d1, d2, d3, f0, hl0⟩ := HX5.out
              have z0 := f0 0
              have z1 := f0 1
              have z2 := f0 2
              have z3 := f0 3
              clear hb5 f0 hl0
              go_wp2
              refine bodyPost_ret (v := .tuple #[.agg #[.string (ba pm), .int .i64 pz, .bool pb, .string (ba (meanP u))], .bool (!be)]) (by simp [results, Tryz.results73, go_sem, d0, d1, d2, d3]) rfl ?_
              refine rpair_fin (HPP.out.trans (by rw [HRV.out])) HWP.out HBEE.out ?_
              repeat (first | with_reducible exact HB5.out | refine Below.setCell ?_ (by simp) _)
            · have g5 : (u.kind == 2) = false := by simpa using hq
              have HRV := Lib.hid (show restV b2 td = b2 ++ joinP td from restV_joined (.inr (.inr ⟨u, _, HDR.out, hq⟩)))
              clear hq hb2e
              go_wp2
              go_quiet ((go_at_call 36; exact Calls.quiet_of_same (HTX.out _ (by first | exact HB2.out | exact HB2.out.drew | exact below_drewN HB2.out _) _)))
              go_wp2_with fail
              refine (HTO.out V (w2.drewN nq)).mono ?_
              rintro e w5 ⟨rfl, hb5⟩
              have HX5 := Lib.hid ((HBX2.out.below (below_drewN (Below.refl _ _) nq)).below hb5)
              have HB5 := Lib.hid ((below_drewN HBW.out nq).trans (hb5.mono (below_drewN HBW.out nq).size))
              obtain ⟨d0, d1, d2, d3, f0, hl0⟩ := HX5.out
              have z0 := f0 0
              have z1 := f0 1
              have z2 := f0 2
              have z3 := f0 3
              clear hb5 f0 hl0
              go_wp2
              refine bodyPost_ret (v := .tuple #[.agg #[.string (ba pm), .int .i64 pz, .bool pb, .string (ba V)], .bool (!be)]) (by simp [results, Tryz.results73, go_sem, d0, d1, d2, d3]) rfl ?_
              refine rpair_fin (HPP.out.trans (by rw [HRV.out, HVV.out])) HWP.out HBEE.out ?_
              repeat (first | with_reducible exact HB5.out | refine Below.setCell ?_ (by simp) _)
          · have g4 : ((M : Int) + 1 == (TL : Int)) = false := by
              rw [beq_eq_false_iff_ne]
              intro h
              exact hb2e (List.eq_nil_of_length_eq_zero (by have := HTL.out; omega))
            have HRV := Lib.hid (show restV b2 td = b2 ++ joinP td from restV_joined (.inl hb2e))
            clear hb2e
            go_wp2
            go_quiet ((go_at_call 36; exact Calls.quiet_of_same (HTX.out _ (by first | exact HB2.out | exact HB2.out.drew | exact below_drewN HB2.out _) _)))
            go_wp2_with fail
            refine (HTO.out V (w2.drewN nq)).mono ?_
            rintro e w5 ⟨rfl, hb5⟩
            have HX5 := Lib.hid ((HBX2.out.below (below_drewN (Below.refl _ _) nq)).below hb5)
            have HB5 := Lib.hid ((below_drewN HBW.out nq).trans (hb5.mono (below_drewN HBW.out nq).size))
            obtain ⟨d0, d1, d2, d3, f0, hl0⟩ := HX5.out
            have z0 := f0 0
            have z1 := f0 1
            have z2 := f0 2
            have z3 := f0 3
            clear hb5 f0 hl0
            go_wp2
            refine bodyPost_ret (v := .tuple #[.agg #[.string (ba pm), .int .i64 pz, .bool pb, .string (ba V)], .bool (!be)]) (by simp [results, Tryz.results73, go_sem, d0, d1, d2, d3]) rfl ?_
            refine rpair_fin (HPP.out.trans (by rw [HRV.out, HVV.out])) HWP.out HBEE.out ?_
            repeat (first | with_reducible exact HB5.out | refine Below.setCell ?_ (by simp) _)
        · have hn9 : n - (k + 1) = 0 := by omega
          have HTX := Lib.hid (fun W' A0 c0 => rtext_any [] A0 (n - (k + 1)) c0 W' ⟨hn9, fun k hk => by simp at hk⟩ (by omega) (by simp [joinP]))
          have hde : ts.drop (k + 1) = [] := List.drop_of_length_le (by rw [HN.out]; omega)
          rw [hde] at HPP
          have hkk : ¬ (k : Int) + 1 < (n : Int) := by omega
          obtain ⟨j0, hj0⟩ : ∃ j, joinP ([] : List Tok) = j := ⟨_, rfl⟩
          have hj00 : j0.length = 0 := by rw [← hj0]; rfl
          have HRV := Lib.hid (show restV b2 [] = b2 ++ j0 by rw [← hj0]; exact restV_joined (.inr (.inl rfl)))
          rw [hj0] at HTX
          have hap := ba_append b2 j0
          have hln : ¬ 9223372036854775807 < (ba b2).size + (ba j0).size := by rw [ba_size, ba_size]; have := HB2L.out; omega
          obtain ⟨V, hV⟩ : ∃ V, b2 ++ j0 = V := ⟨_, rfl⟩
          rw [hV] at hap
          have HVV := Lib.hid hV
          clear hV hj0 hj00
          clear hn9 hde
          have hg4 : ∃ b, ((M : Int) + 1 == (TL : Int)) = b := ⟨_, rfl⟩
          obtain ⟨g, g4⟩ := hg4
          by_cases hce : c = k + 1
          · subst hce
            cases g
            · skip
              go_wp2
              go_quiet ((go_at_call 36; exact Calls.quiet_of_same (HTX.out _ _ _)))
              go_wp2_with fail
              refine (HTO.out V (w2.drewN nq)).mono ?_
              rintro e w5 ⟨rfl, hb5⟩
              have HX5 := Lib.hid ((HBX2.out.below (below_drewN (Below.refl _ _) nq)).below hb5)
              have HB5 := Lib.hid ((below_drewN HBW.out nq).trans (hb5.mono (below_drewN HBW.out nq).size))
              obtain ⟨d0, d1, d2, d3, f0, hl0⟩ := HX5.out
              have z0 := f0 0
              have z1 := f0 1
              have z2 := f0 2
              have z3 := f0 3
              clear hb5 f0 hl0
              go_wp2
              refine bodyPost_ret (v := .tuple #[.agg #[.string (ba pm), .int .i64 pz, .bool pb, .string (ba V)], .bool (!be)]) (by simp [results, Tryz.results73, go_sem, d0, d1, d2, d3]) rfl ?_
              refine rpair_fin (HPP.out.trans (by rw [HRV.out, HVV.out])) HWP.out HBEE.out ?_
              repeat (first | with_reducible exact HB5.out | refine Below.setCell ?_ (by simp) _)
            · skip
              go_wp2
              go_quiet ((go_at_call 36; exact Calls.quiet_of_same (HTX.out _ _ _)))
              go_wp2_with fail
              refine (HTO.out V (w2.drewN nq)).mono ?_
              rintro e w5 ⟨rfl, hb5⟩
              have HX5 := Lib.hid ((HBX2.out.below (below_drewN (Below.refl _ _) nq)).below hb5)
              have HB5 := Lib.hid ((below_drewN HBW.out nq).trans (hb5.mono (below_drewN HBW.out nq).size))
              obtain ⟨d0, d1, d2, d3, f0, hl0⟩ := HX5.out
              have z0 := f0 0
              have z1 := f0 1
              have z2 := f0 2
              have z3 := f0 3
              clear hb5 f0 hl0
              go_wp2
              refine bodyPost_ret (v := .tuple #[.agg #[.string (ba pm), .int .i64 pz, .bool pb, .string (ba V)], .bool (!be)]) (by simp [results, Tryz.results73, go_sem, d0, d1, d2, d3]) rfl ?_
              refine rpair_fin (HPP.out.trans (by rw [HRV.out, HVV.out])) HWP.out HBEE.out ?_
              repeat (first | with_reducible exact HB5.out | refine Below.setCell ?_ (by simp) _)
          · cases g
            · skip
              go_wp2
              go_quiet ((go_at_call 36; exact Calls.quiet_of_same (HTX.out _ _ _)))
              go_wp2_with fail
              refine (HTO.out V (w2.drewN nq)).mono ?_
              rintro e w5 ⟨rfl, hb5⟩
              have HX5 := Lib.hid ((HBX2.out.below (below_drewN (Below.refl _ _) nq)).below hb5)
              have HB5 := Lib.hid ((below_drewN HBW.out nq).trans (hb5.mono (below_drewN HBW.out nq).size))
              obtain ⟨d0, d1, d2, d3, f0, hl0⟩ := HX5.out
              have z0 := f0 0
              have z1 := f0 1
              have z2 := f0 2
              have z3 := f0 3
              clear hb5 f0 hl0
              go_wp2
              refine bodyPost_ret (v := .tuple #[.agg #[.string (ba pm), .int .i64 pz, .bool pb, .string (ba V)], .bool (!be)]) (by simp [results, Tryz.results73, go_sem, d0, d1, d2, d3]) rfl ?_
              refine rpair_fin (HPP.out.trans (by rw [HRV.out, HVV.out])) HWP.out HBEE.out ?_
              repeat (first | with_reducible exact HB5.out | refine Below.setCell ?_ (by simp) _)
            · skip
              go_wp2
              go_quiet ((go_at_call 36; exact Calls.quiet_of_same (HTX.out _ _ _)))
              go_wp2_with fail
              refine (HTO.out V (w2.drewN nq)).mono ?_
              rintro e w5 ⟨rfl, hb5⟩
              have HX5 := Lib.hid ((HBX2.out.below (below_drewN (Below.refl _ _) nq)).below hb5)
              have HB5 := Lib.hid ((below_drewN HBW.out nq).trans (hb5.mono (below_drewN HBW.out nq).size))
              obtain ⟨d0, d1, d2, d3, f0, hl0⟩ := HX5.out
              have z0 := f0 0
              have z1 := f0 1
              have z2 := f0 2
              have z3 := f0 3
              clear hb5 f0 hl0
              go_wp2
              refine bodyPost_ret (v := .tuple #[.agg #[.string (ba pm), .int .i64 pz, .bool pb, .string (ba V)], .bool (!be)]) (by simp [results, Tryz.results73, go_sem, d0, d1, d2, d3]) rfl ?_
              refine rpair_fin (HPP.out.trans (by rw [HRV.out, HVV.out])) HWP.out HBEE.out ?_
              repeat (first | with_reducible exact HB5.out | refine Below.setCell ?_ (by simp) _)
      · have HE := Lib.hid (show pairG [] ts = pairG (a ++ t.text) (ts.drop (k + 1)) by
          rw [HEQ.out, pairG_skip]
          by_cases h : t.kind = 1
          · refine .inr ?_
            cases hz : (cutV 61 t.text).2.2 with
            | true => exact absurd ⟨h, hz⟩ hgo
            | false => rfl
          · exact .inl h)
        have hap := ba_append a t.text
        have hln1 : ¬ 9223372036854775807 < (ba a).size + (ba t.text).size := by rw [ba_size, ba_size]; have := HAX.out; omega
        have HFIN := Lib.hid (show RPaRel w wr ts (k + 1) (a ++ t.text) wr from ⟨HE.out, by rw [HST.out, List.length_append, List.length_append]; have := HAL.out; omega, rfl⟩)
        by_cases hk1 : t.kind = 1
        · have g1 : (t.kind != 1) = false := by simp [hk1]
          have hfv : findV 61 t.text = -1 := by
            unfold findV
            cases hc : cutP 61 t.text with
            | none => rfl
            | some q => exact absurd ⟨hk1, by unfold cutV; rw [hc]⟩ hgo
          rw [hfv] at HFI
          clear hgo hk1 hfv
          go_wp2_with fail
          refine HFI.out.mono ?_
          rintro e w2 ⟨rfl, hw⟩
          have hw2 := hw.symm
          subst hw2
          clear hw
          go_wp2
          go_roundw
          case rel => exact ⟨k + 1, a ++ t.text, _, rfl, by omega, by go_num, rfl, HFIN⟩
          case measure => simp [intOf] <;> omega
        · have g1 : (t.kind != 1) = true := by simpa using hk1
          clear hgo hk1
          obtain ⟨fv, hfv⟩ : ∃ v, findV 61 t.text = v := ⟨_, rfl⟩
          rw [hfv] at HFI
          clear hfv
          go_wp2_with fail
          refine HFI.out.mono ?_
          rintro e w2 ⟨rfl, hw⟩
          have hw2 := hw.symm
          subst hw2
          clear hw
          go_wp2
          go_roundw
          case rel => exact ⟨k + 1, a ++ t.text, _, rfl, by omega, by go_num, rfl, HFIN⟩
          case measure => simp [intOf] <;> omega
    · obtain rfl : k = n := by omega
      have HF := Lib.hid (show pairP ts = ([], []) by
        unfold pairP
        rw [HR.out.eq, List.drop_of_length_le (by rw [HN.out]; exact Nat.le_refl _)]
        rfl)
      obtain ⟨d0, d1, d2, d3, f0, hl0⟩ := HBX.out
      go_wp2
      refine bodyPost_ret (v := .tuple #[.agg #[.string ⟨#[]⟩, .int .i64 0, .bool false, .string ⟨#[]⟩], .bool false]) (by simp [results, Tryz.results73, go_sem, d0, d1, d2, d3]) rfl ?_
      refine rpair_none HF.out ?_
      repeat (first | with_reducible exact HB0.out | refine Below.setCell ?_ (by simp) _)
end Go.Proofs.YtnpgnohlcphfnaaGreatDoor
