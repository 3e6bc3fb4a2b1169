/- Layer 37: the contract of peek (printed by gen_qpeek.py). Layer 37: the words for a parser in memory; is, fail. -/
import Derived.Test.YtomcdhmcjndioaaGreatDoorM10
import Derived.Test.YtomcdhmcjndioaaGreatDoorM07
import Derived.Test.YtomcdhmcjndioaaGreatDoorM09
section
namespace Go.Proofs.YtomcdhmcjndioaaGreatDoor
open Go.RowKit
set_option linter.unusedVariables false

theorem quo_two (src a : Nat) (r : List UInt8) (f : Nat) (raw : List UInt8) : quoQ src a r f raw = ⟨a, a, .bad⟩ ∨ ∃ t m, quoQ src a r f raw = ⟨src, m, .quo t f raw⟩ := by
  unfold quoQ
  split
  · exact .inr ⟨_, _, rfl⟩
  · exact .inl rfl
set_option maxRecDepth 100000 in
set_option maxHeartbeats 4000000 in
theorem qpeek_any (l : List UInt8) (a b : Nat) (w : World) (hl : l.length ≤ 1000000000) (ha : a ≤ l.length) (hT : QTabs w) (c0 : w.cell? ⟨b, 0, none⟩ = some (.string (ba l))) (c1 : w.cell? ⟨b, 1, none⟩ = some (.int .i64 (a : Int))) :
    Calls Tryz.prog 13 #[.pointer (some ⟨b, 0, none⟩)] w (QPk w (peekQ l a)) := by
  have HT := Lib.hid hT
  have HC0 := Lib.hid c0
  obtain ⟨X, hX⟩ : ∃ X, peekQ l a = X := ⟨_, rfl⟩
  have HX0 := Lib.hid hX
  rw [hX]
  clear hX
  obtain ⟨n, hn⟩ : ∃ n, l.length = n := ⟨_, rfl⟩
  have HL := Lib.hid hn
  obtain ⟨s, hs⟩ : ∃ s, ba l = s := ⟨_, rfl⟩
  have HS := Lib.hid hs
  have HZ := Lib.hid (show s.size = n by rw [← hs, ba_size, hn])
  have hsz : (s.size : Int) = n := by rw [HZ.out]
  have hbw : b < w.heap.size := World.block_lt_of_cell? w ⟨b, 0, none⟩ c0
  rw [hs] at c0
  rw [hn] at hl ha
  clear hs hn hT
  go_enter Tryz.func13, Tryz.ntmps13
  go_wp2
  go_loop [3] (fun i => ∃ k : Nat, a ≤ k ∧ k ≤ n ∧ i = .int .i64 (k : Int) ∧ Hid (GapRel l a k)) (fun i => n - (intOf i).toNat)
  case atStart => exact ⟨a, Nat.le_refl _, ha, rfl, Lib.hid rfl⟩
  case round =>
    obtain ⟨k, hak, hk, rfl, HR⟩ := hrel
    by_cases hlt : k < n
    · have hk2 : (k : Int) < (n : Int) := by omega
      have hk0 : (0 : Int) ≤ (k : Int) := by omega
      have hks : k < s.size := by rw [HZ.out]; omega
      have hkl : k < l.length := by rw [HL.out]; omega
      have hget : s[k] = l[k] := by
        have h := HS.out
        subst h
        rfl
      have HST := Lib.hid (fun h => HR.out.trans (gap_step hkl h))
      have HSP := Lib.hid (fun h => peek_at HR.out (gap_stop hkl h))
      have T0 := Lib.hid (tok_opn hkl)
      have T1 := Lib.hid (tok_sht hkl)
      have T2 := Lib.hid (tok_quo hkl)
      have T3 := Lib.hid (tok_dash hkl)
      have T4 := Lib.hid (tok_bare hkl)
      have HB1 := Lib.hid (bare_one hkl)
      obtain ⟨c, hc⟩ : ∃ c, l[k] = c := ⟨_, rfl⟩
      rw [hc] at hget HST HSP T0 T1 T2 T3 T4 HB1
      obtain ⟨x, hx⟩ : ∃ x : Int, (c.toNat : Int) = x := ⟨_, rfl⟩
      have hgi : ((s[k]).toNat : Int) = x := by rw [hget]; exact hx
      have HX := Lib.hid hx
      have hx0 : 0 ≤ x := by omega
      have hx1 : x ≤ 255 := by have := c.toNat_lt; omega
      clear hc hkl hget hx
      have HU := Lib.hid (fun d : UInt8 => u8_int_eq' (c := c) (d := d))
      by_cases hbl : blankQ c = true
      · have HG := Lib.hid (HST.out hbl)
        go_wp2_with fail
        rw [← HX.out]
        refine (qblank_any c _).mono ?_
        rintro e w' ⟨rfl, rfl⟩
        rw [hbl]
        go_wp2
        go_round
        case rel => exact ⟨k + 1, by omega, by omega, by go_num, HG⟩
        case measure => simp [intOf] <;> omega
      · have hbl2 : blankQ c = false := by simpa using hbl
        have HPK := Lib.hid (HX0.out.symm.trans (HSP.out hbl2))
        go_wp2_with fail
        rw [← HX.out]
        refine (qblank_any c _).mono ?_
        rintro e w' ⟨rfl, rfl⟩
        rw [hbl2]
        clear hbl
        have HBL := Lib.hid hbl2
        clear hbl2
        have gkn : ((k : Int) == (n : Int)) = false := by simp; omega
        have HEX := Lib.hid (show ∀ i j, s.extract i j = ba ((l.take j).drop i) from fun i j => by rw [← HS.out]; exact ba_cut l i j)
        go_upto_block 2 with (fail)
        go_cut [] from 52 to 104 (fun wc => wc = (w.alloc (.cells #[.int .i64 0, .int .i64 0, .int .i64 0, .string ⟨#[]⟩, .int .i64 0, .bool false] 41)).alloc (.cells #[.int .i64 0, .int .i64 (k : Int), .int .i64 ((k : Int) + 1), .string ⟨#[]⟩, .int .i64 0, .bool false] 41) ∧ Hid (X = bareQ k (l.drop k)) ∧ Hid (edgeQ c = false))
        case first =>
          by_cases e40 : x = 40
          · have HF := Lib.hid (HPK.out.trans (T0.out ((HU.out 40).1 (by rw [HX.out, e40]; rfl))))
            have g1 : (x == 40) = true := by simpa using e40
            clear e40
            go_wp2
            refine bodyPost_ret (by simp [results, Tryz.results13, go_sem]; try rfl) rfl ?_
            exact qpk_end HF.out rfl (((Below.refl _ _).alloc (Nat.le_refl _) _).alloc (by simp) _)
          have g40 : (x == 40) = false := by simpa using e40
          by_cases e41 : x = 41
          · have HF := Lib.hid (HPK.out.trans (T1.out ((HU.out 41).1 (by rw [HX.out, e41]; rfl))))
            have g1 : (x == 41) = true := by simpa using e41
            clear e40 e41
            go_wp2
            refine bodyPost_ret (by simp [results, Tryz.results13, go_sem]; try rfl) rfl ?_
            exact qpk_end HF.out rfl (((Below.refl _ _).alloc (Nat.le_refl _) _).alloc (by simp) _)
          have g41 : (x == 41) = false := by simpa using e41
          by_cases e34 : x = 34
          · have HF0 := Lib.hid (HPK.out.trans (T2.out ((HU.out 34).1 (by rw [HX.out, e34]; rfl))))
            have g1 : (x == 34) = true := by simpa using e34
            clear e40 e41 e34
            go_wp2_with fail
            refine (qquoted_any l [] b k k 0 _ (by rw [HL.out]; exact hl) (by omega) (by rw [HL.out]; exact hlt) (by omega) (HT.out.below (((Below.refl w.heap.size w).alloc (Nat.le_refl _) (.cells #[.int .i64 0, .int .i64 0, .int .i64 0, .string ⟨#[]⟩, .int .i64 0, .bool false] 41)).alloc (by simp) (.cells #[.int .i64 0, .int .i64 (k : Int), .int .i64 ((k : Int) + 1), .string ⟨#[]⟩, .int .i64 0, .bool false] 41))) ?_).mono ?_
            · rw [HS.out]
              go_simp
            rintro e w3 ⟨rfl, hb3⟩
            have HB3 := Lib.hid ((((Below.refl w.heap.size w).alloc (Nat.le_refl _) (.cells #[.int .i64 0, .int .i64 0, .int .i64 0, .string ⟨#[]⟩, .int .i64 0, .bool false] 41)).alloc (by simp) (.cells #[.int .i64 0, .int .i64 (k : Int), .int .i64 ((k : Int) + 1), .string ⟨#[]⟩, .int .i64 0, .bool false] 41)).trans (hb3.mono (by simp; omega)))
            have HR3 := Lib.hid ((resAt_new w (.cells #[.int .i64 0, .int .i64 (k : Int), .int .i64 ((k : Int) + 1), .string ⟨#[]⟩, .int .i64 0, .bool false] 41)).below hb3 (by simp; omega))
            clear hb3
            obtain ⟨r0, r1, r2, r3, r4, r5, rf⟩ := HR3.out.cells
            rcases quo_two k k (l.drop (k + 1)) 0 [] with hq | ⟨t, m, hq⟩
            · have HF := Lib.hid (HF0.out.trans hq)
              rw [hq]
              clear hq
              unfold pcV
              go_wp2
              refine bodyPost_ret (v := .agg #[.int .i64 4, .int .i64 (k : Int), .int .i64 0, .string ⟨#[]⟩, .int .i64 0, .bool true]) (by simp [results, Tryz.results13, go_sem, r0, r1, r2, r3, r4, r5]) rfl ?_
              refine qpk_end HF.out rfl ?_
              repeat (first | (with_reducible exact HB3.out) | refine Below.setCell ?_ (by simp) _)
            · have HF := Lib.hid (HF0.out.trans hq)
              rw [hq]
              clear hq
              unfold pcV
              go_wp2
              refine bodyPost_ret (v := .agg #[.int .i64 4, .int .i64 (k : Int), .int .i64 (m : Int), .string (ba t), .int .i64 ((0 : Nat) : Int), .bool false]) (by simp [results, Tryz.results13, go_sem, r0, r1, r2, r3, r4, r5]) rfl ?_
              refine qpk_end HF.out rfl ?_
              repeat (first | (with_reducible exact HB3.out) | refine Below.setCell ?_ (by simp) _)
          have g34 : (x == 34) = false := by simpa using e34
          have HK := Lib.hid (show edgeQ c = false by
            rw [edgeQ_eqp, HBL.out]
            have h1 : (c == 40) = false := beq_eq_false_iff_ne.2 fun h => e40 (by rw [← HX.out, h]; rfl)
            have h2 : (c == 41) = false := beq_eq_false_iff_ne.2 fun h => e41 (by rw [← HX.out, h]; rfl)
            have h3 : (c == 34) = false := beq_eq_false_iff_ne.2 fun h => e34 (by rw [← HX.out, h]; rfl)
            rw [h1, h2, h3]
            rfl)
          have N40 := Lib.hid (show c ≠ 40 from fun h => e40 (by rw [← HX.out, h]; rfl))
          have N41 := Lib.hid (show c ≠ 41 from fun h => e41 (by rw [← HX.out, h]; rfl))
          have N34 := Lib.hid (show c ≠ 34 from fun h => e34 (by rw [← HX.out, h]; rfl))
          by_cases e45 : x = 45
          · have g45 : (x == 45) = true := by simpa using e45
            have HC := Lib.hid (show c = 45 from (HU.out 45).1 (by rw [HX.out, e45]; rfl))
            by_cases hk1 : k + 1 < n
            · have q1 : (k : Int) + 1 < (n : Int) := by omega
              have q0 : (0 : Int) ≤ (k : Int) + 1 := by omega
              have qs : k + 1 < s.size := by rw [HZ.out]; omega
              have ql : k + 1 < l.length := by rw [HL.out]; omega
              have qget : s[k + 1] = l[k + 1] := by
                have h := HS.out
                subst h
                rfl
              have HDA := Lib.hid (fun h1 h2 => HPK.out.trans (T3.out HC.out ql h1 h2))
              have HBA := Lib.hid (fun (h : blankQ l[k + 1] = true ∨ l[k + 1] = 41) => HPK.out.trans (T4.out N40.out N41.out N34.out fun _ _ => h))
              obtain ⟨d, hd⟩ : ∃ d, l[k + 1] = d := ⟨_, rfl⟩
              rw [hd] at qget HDA HBA
              obtain ⟨y, hy⟩ : ∃ y : Int, (d.toNat : Int) = y := ⟨_, rfl⟩
              have qgi : ((s[k + 1]).toNat : Int) = y := by rw [qget]; exact hy
              have HY := Lib.hid hy
              have HUD := Lib.hid (fun e : UInt8 => u8_int_eq' (c := d) (d := e))
              clear hd ql qget hy e45 e40 e41 e34
              by_cases hb1 : blankQ d = true
              · have HF := Lib.hid (HBA.out (.inl hb1))
                go_wp2_with fail
                rw [← HY.out]
                refine (qblank_any d _).mono ?_
                rintro e w' ⟨rfl, rfl⟩
                rw [hb1]
                clear hb1
                go_wp2
                go_meet
                case rel => exact ⟨rfl, HF, HK⟩
              · have hb2 : blankQ d = false := by simpa using hb1
                by_cases e : y = 41
                · have HF := Lib.hid (HBA.out (.inr ((HUD.out 41).1 (by rw [HY.out, e]; rfl))))
                  have g : (y != 41) = false := by simpa using e
                  clear e
                  go_wp2_with fail
                  rw [← HY.out]
                  refine (qblank_any d _).mono ?_
                  rintro e w' ⟨rfl, rfl⟩
                  rw [hb2]
                  clear hb1 hb2
                  go_wp2
                  go_meet
                  case rel => exact ⟨rfl, HF, HK⟩
                · have HF := Lib.hid (HDA.out hb2 (fun h => e (by rw [← HY.out, h]; rfl)))
                  have g : (y != 41) = true := by simpa using e
                  clear e
                  go_wp2_with fail
                  rw [← HY.out]
                  refine (qblank_any d _).mono ?_
                  rintro e w' ⟨rfl, rfl⟩
                  rw [hb2]
                  clear hb1 hb2
                  go_wp2
                  refine bodyPost_ret (by simp [results, Tryz.results13, go_sem]; try rfl) rfl ?_
                  exact qpk_end HF.out rfl (((Below.refl _ _).alloc (Nat.le_refl _) _).alloc (by simp) _)
            · have q1 : ¬ (k : Int) + 1 < (n : Int) := by omega
              have HF := Lib.hid (HPK.out.trans (T4.out N40.out N41.out N34.out fun _ h => absurd h (by rw [HL.out]; exact hk1)))
              clear e45 e40 e41 e34
              go_wp2
              go_meet
              case rel => exact ⟨rfl, HF, HK⟩
          · have g45 : (x == 45) = false := by simpa using e45
            have HF := Lib.hid (HPK.out.trans (T4.out N40.out N41.out N34.out fun h => absurd (by rw [← HX.out, h]; rfl) e45))
            clear e45 e40 e41 e34
            go_wp2
            go_meet
            case rel => exact ⟨rfl, HF, HK⟩
        case rest =>
          obtain ⟨rfl, HF0, HK⟩ := hcut
          clear hgi
          have hb1 := HB1.out HK.out
          have HBR := Lib.hid (bare_rest l k)
          have hble := bareN_le l k (by rw [HL.out]; exact hk)
          rw [HL.out] at hble
          have HIX := Lib.hid (edges_idx (l.drop k))
          have HLD := Lib.hid (show (l.drop k).length = n - k by rw [List.length_drop, HL.out])
          have HBC := Lib.hid (HF0.out.trans (bare_cases HBR.out.1 HBR.out.2))
          have HCALL := Lib.hid (fun W => edges_any (l.drop k) (by rw [HLD.out]; omega) W)
          have HD := Lib.hid (ba_drop l k)
          obtain ⟨v, hv⟩ : ∃ v, Lib.indexAny (l.drop k) edgesQ = v := ⟨_, rfl⟩
          rw [hv] at HIX
          simp only [hv] at HCALL
          rw [HS.out] at HD
          obtain ⟨bn, hbn⟩ : ∃ bn, bareN (l.drop k) = bn := ⟨_, rfl⟩
          rw [hbn] at HIX hb1 hble
          rw [hbn, HL.out] at HBC
          clear hv hbn HBR HB1
          go_wp2_with fail
          rw [HD.out]
          refine (HCALL.out _).mono ?_
          rintro e w3 ⟨rfl, hb3⟩
          have HB3 := Lib.hid ((((Below.refl w.heap.size w).alloc (Nat.le_refl _) (.cells #[.int .i64 0, .int .i64 0, .int .i64 0, .string ⟨#[]⟩, .int .i64 0, .bool false] 41)).alloc (by simp) (.cells #[.int .i64 0, .int .i64 (k : Int), .int .i64 ((k : Int) + 1), .string ⟨#[]⟩, .int .i64 0, .bool false] 41)).trans (hb3.mono (by simp; omega)))
          have HR3 := Lib.hid ((resAt_new w (.cells #[.int .i64 0, .int .i64 (k : Int), .int .i64 ((k : Int) + 1), .string ⟨#[]⟩, .int .i64 0, .bool false] 41)).below hb3 (by simp; omega))
          have c3 : w3.cell? ⟨b, 0, none⟩ = some (.string s) := (HB3.out.cell (p := ⟨b, 0, none⟩) hbw).trans c0
          have z3 := HB3.out.size
          have zr : w.heap.size < w3.heap.size := by have := hb3.size; simp at this; omega
          clear hb3 HCALL
          go_upto_if 113 with (fail)
          go_cut [6] from 113 to 120 (fun u wc => u = .int .i64 (bn : Int) ∧ wc = w3)
          case first =>
            rcases HIX.out with ⟨rfl, h2⟩ | ⟨rfl, h2⟩
            · have h3 : (n : Int) - (k : Int) = (bn : Int) := by rw [HLD.out] at h2; omega
              have H3 := Lib.hid h3
              clear h2 h3
              go_wp2
              go_meet
              case rel => exact ⟨by rw [H3.out], rfl⟩
            · clear h2
              go_wp2
              go_meet
              case rel => exact ⟨rfl, rfl⟩
          case rest =>
            obtain ⟨rfl, rfl⟩ := hcut
            have q1 : (k : Int) ≤ (k : Int) + (bn : Int) := by omega
            have q2 : (k : Int) + (bn : Int) ≤ (n : Int) := by omega
            have hkt : k < k + bn := by omega
            have HLA := Lib.hid (bare_last (s := l) hkt (by rw [HL.out]; exact hble))
            have HXL := Lib.hid (show ((l.take (k + bn)).drop k).length ≤ 1000000000 by rw [List.length_drop, List.length_take]; omega)
            obtain ⟨t, ht⟩ : ∃ t, (l.take (k + bn)).drop k = t := ⟨_, rfl⟩
            have HEXT := Lib.hid (show s.extract k (k + bn) = ba t by rw [← ht]; exact HEX.out _ _)
            rw [ht] at HBC HXL
            clear ht HLA hkt
            have HCS := Lib.hid (fun W => cutsuf_any 58 t W HXL.out)
            by_cases hlast : t.getLast? = some 58
            · have HDL := Lib.hid (show t.dropLast.length ≤ 1000000000 by rw [List.length_dropLast]; have := HXL.out; omega)
              have HTR := Lib.hid (show trimC 58 t = t.dropLast by unfold trimC; rw [if_pos hlast])
              have HDE := Lib.hid (show decide (t.getLast? = some 58) = true from decide_eq_true hlast)
              by_cases htn : k + bn < n
              · have t1 : (k : Int) + (bn : Int) < (n : Int) := by omega
                have t0 : (0 : Int) ≤ (k : Int) + (bn : Int) := by omega
                have ts : k + bn < s.size := by rw [HZ.out]; exact htn
                have tl : k + bn < l.length := by rw [HL.out]; exact htn
                have tget : s[k + bn] = l.getD (k + bn) 0 := by
                  have h := HS.out
                  subst h
                  rw [List.getD_eq_getElem?_getD, List.getElem?_eq_getElem tl]
                  rfl
                obtain ⟨d, hd⟩ : ∃ d, l.getD (k + bn) 0 = d := ⟨_, rfl⟩
                rw [hd] at tget HBC
                obtain ⟨y, hy⟩ : ∃ y : Int, (d.toNat : Int) = y := ⟨_, rfl⟩
                have tgi : ((s[k + bn]).toNat : Int) = y := by rw [tget]; exact hy
                have HY := Lib.hid hy
                have HUD := Lib.hid (fun e : UInt8 => u8_int_eq' (c := d) (d := e))
                clear hd tl tget hy
                by_cases e34 : y = 34
                · have g34 : (y == 34) = true := by simpa using e34
                  have HD34 := Lib.hid (show d = 34 from (HUD.out 34).1 (by rw [HY.out, e34]; rfl))
                  clear e34
                  have HFL := Lib.hid (fun W h => qfield_any t.dropLast W HDL.out h)
                  obtain ⟨F, hFF⟩ : ∃ F, fieldQ t.dropLast = F := ⟨_, rfl⟩
                  have HF5 := Lib.hid (show F ≤ 5 by rw [← hFF]; exact (field_at t.dropLast).2.2.2.2.2)
                  simp only [hFF] at HFL
                  rw [hFF] at HBC
                  clear hFF
                  go_wp2_with fail
                  rw [HEXT.out]
                  refine (HCS.out _).mono ?_
                  rintro e w' ⟨rfl, rfl⟩
                  rw [HTR.out, HDE.out]
                  go_wp2_with fail
                  refine (HFL.out w' (HT.out.below HB3.out)).mono ?_
                  rintro e w4 ⟨rfl, hb4⟩
                  have HB4 := Lib.hid (HB3.out.trans (hb4.mono HB3.out.size))
                  have HR4 := Lib.hid (HR3.out.below hb4 (by omega))
                  have z4 := hb4.size
                  clear hb4
                  by_cases hF : F = 0
                  · have HF := Lib.hid (show X = ⟨k, k + bn, .bare t⟩ by
                      rw [HBC.out, if_neg]
                      rintro ⟨_, _, h⟩
                      omega)
                    subst hF
                    obtain ⟨r0, r1, r2, r3, r4, r5, rf⟩ := HR4.out.cells
                    go_wp2
                    refine bodyPost_ret (v := .agg #[.int .i64 5, .int .i64 (k : Int), .int .i64 ((k + bn : Nat) : Int), .string (ba t), .int .i64 0, .bool false]) (by simp [results, Tryz.results13, go_sem, r0, r1, r2, r3, r4, r5]) rfl ?_
                    refine qpk_end HF.out rfl ?_
                    repeat (first | (with_reducible exact HB4.out) | refine Below.setCell ?_ (by simp) _)
                  · have hF1 : decide ((0 : Int) < (F : Int)) = true := decide_eq_true (by omega)
                    have hF2 : (0 : Int) < (F : Int) := by omega
                    have HFQ := Lib.hid (show X = quoQ k (k + bn) (l.drop (k + bn + 1)) F t by
                      rw [HBC.out, if_pos ⟨⟨htn, HD34.out⟩, hlast, by omega⟩])
                    go_wp2_with fail
                    refine (HFL.out w4 (HT.out.below HB4.out)).mono ?_
                    rintro e w5 ⟨rfl, hb5⟩
                    have HB5 := Lib.hid (HB4.out.trans (hb5.mono HB4.out.size))
                    have HR5 := Lib.hid (HR4.out.below hb5 (by omega))
                    have z5 := hb5.size
                    clear hb5
                    go_wp2_with fail
                    rw [show ((k : Int) + (bn : Int)) = ((k + bn : Nat) : Int) from by omega]
                    refine (qquoted_any l t b k (k + bn) F w5 (by rw [HL.out]; exact hl) (by omega) (by rw [HL.out]; exact htn) (by have := HF5.out; omega) (HT.out.below HB5.out) ((HB5.out.cell (p := ⟨b, 0, none⟩) hbw).trans HC0.out)).mono ?_
                    rintro e w6 ⟨rfl, hb6⟩
                    have HB6 := Lib.hid (HB5.out.trans (hb6.mono HB5.out.size))
                    have HR6 := Lib.hid (HR5.out.below hb6 (by omega))
                    have z6 := hb6.size
                    clear hb6
                    obtain ⟨r0, r1, r2, r3, r4, r5, rf⟩ := HR6.out.cells
                    rcases quo_two k (k + bn) (l.drop (k + bn + 1)) F t with hq | ⟨u, m, hq⟩
                    · have HF := Lib.hid (HFQ.out.trans hq)
                      rw [hq]
                      clear hq
                      unfold pcV
                      go_wp2
                      refine bodyPost_ret (v := .agg #[.int .i64 4, .int .i64 ((k + bn : Nat) : Int), .int .i64 0, .string ⟨#[]⟩, .int .i64 0, .bool true]) (by simp [results, Tryz.results13, go_sem, r0, r1, r2, r3, r4, r5]) rfl ?_
                      refine qpk_end HF.out rfl ?_
                      repeat (first | (with_reducible exact HB6.out) | refine Below.setCell ?_ (by simp) _)
                    · have HF := Lib.hid (HFQ.out.trans hq)
                      rw [hq]
                      clear hq
                      unfold pcV
                      go_wp2
                      refine bodyPost_ret (v := .agg #[.int .i64 4, .int .i64 (k : Int), .int .i64 (m : Int), .string (ba u), .int .i64 (F : Int), .bool false]) (by simp [results, Tryz.results13, go_sem, r0, r1, r2, r3, r4, r5]) rfl ?_
                      refine qpk_end HF.out rfl ?_
                      repeat (first | (with_reducible exact HB6.out) | refine Below.setCell ?_ (by simp) _)
                · have g34 : (y == 34) = false := by simpa using e34
                  have HF := Lib.hid (show X = ⟨k, k + bn, .bare t⟩ by
                    rw [HBC.out, if_neg]
                    rintro ⟨⟨_, h⟩, _⟩
                    exact e34 (by rw [← HY.out, h]; rfl))
                  clear e34
                  go_wp2_with fail
                  rw [HEXT.out]
                  refine (HCS.out _).mono ?_
                  rintro e w' ⟨rfl, rfl⟩
                  rw [HTR.out, HDE.out]
                  obtain ⟨r0, r1, r2, r3, r4, r5, rf⟩ := HR3.out.cells
                  go_wp2
                  refine bodyPost_ret (v := .agg #[.int .i64 5, .int .i64 (k : Int), .int .i64 ((k + bn : Nat) : Int), .string (ba t), .int .i64 0, .bool false]) (by simp [results, Tryz.results13, go_sem, r0, r1, r2, r3, r4, r5]) rfl ?_
                  refine qpk_end HF.out rfl ?_
                  repeat (first | (with_reducible exact HB3.out) | refine Below.setCell ?_ (by simp) _)
              · have t1 : ¬ (k : Int) + (bn : Int) < (n : Int) := by omega
                have HF := Lib.hid (show X = ⟨k, k + bn, .bare t⟩ by
                  rw [HBC.out, if_neg]
                  rintro ⟨⟨h, _⟩, _⟩
                  exact htn h)
                go_wp2_with fail
                rw [HEXT.out]
                refine (HCS.out _).mono ?_
                rintro e w' ⟨rfl, rfl⟩
                rw [HTR.out, HDE.out]
                obtain ⟨r0, r1, r2, r3, r4, r5, rf⟩ := HR3.out.cells
                go_wp2
                refine bodyPost_ret (v := .agg #[.int .i64 5, .int .i64 (k : Int), .int .i64 ((k + bn : Nat) : Int), .string (ba t), .int .i64 0, .bool false]) (by simp [results, Tryz.results13, go_sem, r0, r1, r2, r3, r4, r5]) rfl ?_
                refine qpk_end HF.out rfl ?_
                repeat (first | (with_reducible exact HB3.out) | refine Below.setCell ?_ (by simp) _)
            · have HDE := Lib.hid (show decide (t.getLast? = some 58) = false from decide_eq_false hlast)
              have HF := Lib.hid (show X = ⟨k, k + bn, .bare t⟩ by
                rw [HBC.out, if_neg]
                rintro ⟨_, h, _⟩
                exact hlast h)
              go_wp2_with fail
              rw [HEXT.out]
              refine (HCS.out _).mono ?_
              rintro e w' ⟨rfl, rfl⟩
              rw [HDE.out]
              obtain ⟨r0, r1, r2, r3, r4, r5, rf⟩ := HR3.out.cells
              go_wp2
              refine bodyPost_ret (v := .agg #[.int .i64 5, .int .i64 (k : Int), .int .i64 ((k + bn : Nat) : Int), .string (ba t), .int .i64 0, .bool false]) (by simp [results, Tryz.results13, go_sem, r0, r1, r2, r3, r4, r5]) rfl ?_
              refine qpk_end HF.out rfl ?_
              repeat (first | (with_reducible exact HB3.out) | refine Below.setCell ?_ (by simp) _)
    · obtain rfl : k = n := by omega
      have HF := Lib.hid (HX0.out.symm.trans ((peek_at HR.out (gap_end (by rw [HL.out]; exact Nat.le_refl _))).trans (tok_fin (by rw [HL.out]; exact Nat.le_refl _))))
      go_wp2
      refine bodyPost_ret (by simp [results, Tryz.results13, go_sem]; try rfl) rfl ?_
      exact qpk_end HF.out rfl ((Below.refl _ _).alloc (Nat.le_refl _) _)
end Go.Proofs.YtomcdhmcjndioaaGreatDoor
end
section
namespace Go.Proofs.YtomcdhmcjndioaaGreatDoor
open Go.RowKit
set_option linter.unusedVariables false

/-- The parser object at block b. -/
def Psr (w : World) (b : Nat) (s : List UInt8) (a d : Nat) (fl : Value) : Prop := w.heap[b]? = some (.cells #[.string (ba s), .int .i64 (a : Int), .int .i64 (d : Int), fl] 39 (0, 0))
theorem Psr.below {w w' : World} {B b : Nat} {s : List UInt8} {a d : Nat} {fl : Value} (h : Psr w b s a d fl) (hb : Below B w w') (hg : b < B) : Psr w' b s a d fl := (hb.block b hg).trans h
theorem Psr.off {w w' : World} {F : Nat → Prop} {b : Nat} {s : List UInt8} {a d : Nat} {fl : Value} (h : Psr w b s a d fl) (ho : Off F w w') (hf : ¬ F b) : Psr w' b s a d fl := (ho.block b (heap_lt h) hf).trans h
theorem Psr.cells {w : World} {b : Nat} {s : List UInt8} {a d : Nat} {fl : Value} (h : Psr w b s a d fl) : w.cell? ⟨b, 0, none⟩ = some (.string (ba s)) ∧ w.cell? ⟨b, 1, none⟩ = some (.int .i64 (a : Int)) ∧ w.cell? ⟨b, 2, none⟩ = some (.int .i64 (d : Int)) ∧ w.cell? ⟨b, 3, none⟩ = some fl ∧ (∀ i, w.frozen? ⟨b, i, none⟩ = false) ∧ b < w.heap.size := by
  have h0 := h
  unfold Psr at h
  refine ⟨?_, ?_, ?_, ?_, fun i => Lib.frozen_of_heap h i, heap_lt h0⟩ <;> (rw [Lib.cell_of_heap h]; rfl)
theorem set_heap {w : World} {b : Nat} {cs : Array Value} {T : TypeId} {fz : Nat × Nat} (h : w.heap[b]? = some (.cells cs T fz)) (i : Nat) (v : Value) : (w.setCell ⟨b, i, none⟩ v).heap[b]? = some (.cells (cs.setIfInBounds i v) T fz) := by
  simp only [World.setCell, Array.getElem?_modify, ↓reduceIte, h, Option.map_some]
  simp
theorem Psr.at_ {w : World} {b : Nat} {s : List UInt8} {a d : Nat} {fl : Value} (h : Psr w b s a d fl) (a' : Nat) : Psr (w.setCell ⟨b, 1, none⟩ (.int .i64 (a' : Int))) b s a' d fl := set_heap h 1 _
theorem Psr.deep {w : World} {b : Nat} {s : List UInt8} {a d : Nat} {fl : Value} (h : Psr w b s a d fl) (d' : Nat) : Psr (w.setCell ⟨b, 2, none⟩ (.int .i64 (d' : Int))) b s a d' fl := set_heap h 2 _
theorem Psr.fault {w : World} {b : Nat} {s : List UInt8} {a d : Nat} {fl : Value} (h : Psr w b s a d fl) (fl' : Value) : Psr (w.setCell ⟨b, 3, none⟩ fl') b s a d fl' := set_heap h 3 _
/-- The fault at block g. -/
def Flt (w : World) (g e a : Nat) : Prop := w.heap[g]? = some (.cells #[.int .i64 (e : Int), .int .i64 (a : Int)] 46 (0, 0))
theorem Flt.off {w w' : World} {F : Nat → Prop} {g e a : Nat} (h : Flt w g e a) (ho : Off F w w') (hf : ¬ F g) : Flt w' g e a := (ho.block g (heap_lt h) hf).trans h
/-- fail records the first fault. -/
def FailPost (w : World) (b : Nat) (s : List UInt8) (d er a : Nat) (e : Ending) (w' : World) : Prop :=
  e = .returned noRaw.val ∧ Off (fun k => k = b) w w' ∧ ∃ g, w.heap.size ≤ g ∧ g ≠ b ∧ Psr w' b s s.length d (.pointer (some ⟨g, 0, none⟩)) ∧ Flt w' g er a
/-- fail with a fault that stands. -/
def FailPost2 (w : World) (b : Nat) (s : List UInt8) (d : Nat) (fl : Value) (e : Ending) (w' : World) : Prop :=
  e = .returned noRaw.val ∧ Off (fun k => k = b) w w' ∧ Psr w' b s s.length d fl
set_option maxRecDepth 100000 in
set_option maxHeartbeats 4000000 in
theorem qfail_new (s : List UInt8) (b at0 d er a : Nat) (w : World) (hs : s.length ≤ 1000000) (hp : Psr w b s at0 d (.pointer none)) :
    Calls Tryz.prog 15 #[.pointer (some ⟨b, 0, none⟩), .int .i64 (er : Int), .int .i64 (a : Int)] w (FailPost w b s d er a) := by
  obtain ⟨c0, c1, c2, c3, cf, hbw⟩ := hp.cells
  have HP := Lib.hid hp
  have hne : ¬ w.heap.size = b := by omega
  have HZ := Lib.hid (ba_size s)
  obtain ⟨sz, hsz⟩ : ∃ z, ba s = z := ⟨_, rfl⟩
  have HSZ := Lib.hid hsz
  rw [hsz] at c0
  have hszn : (sz.size : Int) = (s.length : Int) := by rw [← hsz, ba_size]
  clear hp hsz
  go_enter Tryz.func15, Tryz.ntmps15
  go_wp2
  refine bodyPost_ret (v := .agg #[.int .i64 0, .int .i64 0, .string ⟨#[]⟩, .int .i64 0, .slice none 0 0]) (by simp [results, Tryz.results15, go_sem]; try rfl) rfl ?_
  have HPP := Lib.hid ((HP.out.fault (.pointer (some ⟨w.heap.size + 1, 0, none⟩))).at_ s.length)
  have HOF := Lib.hid (((Off.refl (fun k => k = b) w).setCell (p := ⟨b, 3, none⟩) (.inl rfl) (.pointer (some ⟨w.heap.size + 1, 0, none⟩))).setCell (p := ⟨b, 1, none⟩) (.inl rfl) (.int .i64 (s.length : Int)))
  obtain ⟨W1, hW1⟩ : ∃ W1, (w.setCell ⟨b, 3, none⟩ (.pointer (some ⟨w.heap.size + 1, 0, none⟩))).setCell ⟨b, 1, none⟩ (.int .i64 (s.length : Int)) = W1 := ⟨_, rfl⟩
  have hz : W1.heap.size = w.heap.size := by rw [← hW1]; simp
  rw [hW1] at HPP HOF ⊢
  clear hW1
  refine ⟨rfl, (HOF.out.alloc _).alloc _, w.heap.size + 1, by omega, by omega, ?_, ?_⟩
  · have h1 := heap_lt HPP.out
    exact (heap_alloc_old _ _ (by simp only [World.size_alloc]; omega)).trans ((heap_alloc_old _ _ h1).trans HPP.out)
  · have h := (MapKept.heap_alloc (W1.alloc (.cells #[.int .i64 0, .int .i64 0, .string ⟨#[]⟩, .int .i64 0, .slice none 0 0] 25)) (.cells #[.int .i64 (er : Int), .int .i64 (a : Int)] 46)).1
    rw [World.size_alloc, hz] at h
    exact h
set_option maxRecDepth 100000 in
set_option maxHeartbeats 4000000 in
theorem qfail_old (s : List UInt8) (b at0 d er a g : Nat) (w : World) (hs : s.length ≤ 1000000) (hp : Psr w b s at0 d (.pointer (some ⟨g, 0, none⟩))) :
    Calls Tryz.prog 15 #[.pointer (some ⟨b, 0, none⟩), .int .i64 (er : Int), .int .i64 (a : Int)] w (FailPost2 w b s d (.pointer (some ⟨g, 0, none⟩))) := by
  obtain ⟨c0, c1, c2, c3, cf, hbw⟩ := hp.cells
  have HP := Lib.hid hp
  have hne : ¬ w.heap.size = b := by omega
  have HZ := Lib.hid (ba_size s)
  obtain ⟨sz, hsz⟩ : ∃ z, ba s = z := ⟨_, rfl⟩
  have HSZ := Lib.hid hsz
  rw [hsz] at c0
  have hszn : (sz.size : Int) = (s.length : Int) := by rw [← hsz, ba_size]
  clear hp hsz
  go_enter Tryz.func15, Tryz.ntmps15
  go_wp2
  refine bodyPost_ret (v := .agg #[.int .i64 0, .int .i64 0, .string ⟨#[]⟩, .int .i64 0, .slice none 0 0]) (by simp [results, Tryz.results15, go_sem]; try rfl) rfl ?_
  have HPP := Lib.hid (HP.out.at_ s.length)
  have HOF := Lib.hid ((Off.refl (fun k => k = b) w).setCell (p := ⟨b, 1, none⟩) (.inl rfl) (.int .i64 (s.length : Int)))
  obtain ⟨W1, hW1⟩ : ∃ W1, w.setCell ⟨b, 1, none⟩ (.int .i64 (s.length : Int)) = W1 := ⟨_, rfl⟩
  rw [hW1] at HPP HOF ⊢
  clear hW1
  refine ⟨rfl, HOF.out.alloc _, ?_⟩
  exact (heap_alloc_old _ _ (heap_lt HPP.out)).trans HPP.out
end Go.Proofs.YtomcdhmcjndioaaGreatDoor
end
