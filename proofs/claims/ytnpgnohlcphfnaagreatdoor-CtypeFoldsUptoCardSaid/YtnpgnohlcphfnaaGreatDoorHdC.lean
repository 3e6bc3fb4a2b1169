/- Layer 9: the contract of Parse (a header section's fields). -/
import Derived.Test.YtnpgnohlcphfnaaGreatDoorHdB
namespace Go.Proofs.YtnpgnohlcphfnaaGreatDoor
open Go.RowKit
set_option linter.unusedVariables false

/-- How many bytes of the lines behind belong to the field. -/
def moreL (l : List UInt8) : Nat := moreP l.length l
theorem moreL_yes {l : List UInt8} (h : goesP l = true) : moreL l = endP l + moreL (l.drop (endP l)) := by
  unfold moreL
  cases l with
  | nil => cases h
  | cons c r =>
    have h1 := endP_pos (goes_ne h)
    rw [List.length_cons]
    conv => lhs; unfold moreP
    rw [if_pos h, moreP_fuel r.length _ _ (by rw [List.length_drop, List.length_cons]; omega) (Nat.le_refl _)]
theorem moreL_no {l : List UInt8} (h : goesP l = false) : moreL l = 0 := by
  unfold moreL
  cases l with
  | nil => rfl
  | cons c r =>
    rw [List.length_cons]
    unfold moreP
    rw [if_neg (by rw [h]; decide)]
theorem moreL_le (l : List UInt8) : moreL l ≤ l.length := moreP_le _ l
theorem headP_nil : headP [] = ([], 0) := rfl
theorem headP_end {l : List UInt8} (h : l ≠ []) (h2 : nudeP (l.take (endP l)) = []) : headP l = ([], endP l) := by
  unfold headP
  cases l with
  | nil => exact absurd rfl h
  | cons c r =>
    rw [List.length_cons]
    unfold headF
    rw [if_neg h, if_pos h2]
theorem headP_go {l : List UInt8} (h : l ≠ []) (h2 : nudeP (l.take (endP l)) ≠ []) {m : Nat} (hm : endP l + moreL (l.drop (endP l)) = m) : headP l = (fldP (l.take m) :: (headP (l.drop m)).1, m + (headP (l.drop m)).2) := by
  subst hm
  have h3 := endP_pos h
  have h4 := endP_le l
  have h5 : headP (l.drop (endP l + moreL (l.drop (endP l)))) = headF (l.length - 1) (l.drop (endP l + moreL (l.drop (endP l)))) := by
    unfold headP
    exact headF_fuel _ _ _ (Nat.le_refl _) (by rw [List.length_drop]; omega)
  rw [h5]
  unfold headP
  cases l with
  | nil => exact absurd rfl h
  | cons c r =>
    have h6 : moreL ((c :: r).drop (endP (c :: r))) = moreP (c :: r).length ((c :: r).drop (endP (c :: r))) := moreP_fuel _ _ _ (Nat.le_refl _) (by rw [List.length_drop]; omega)
    rw [h6]
    conv => lhs; rw [List.length_cons]
    conv => lhs; unfold headF
    rw [if_neg h, if_neg h2]
    rfl
def HeadPost (w : World) (q : List Fld × Nat) (e : Ending) (w' : World) : Prop := ∃ v, e = .returned (.tuple #[v, .int .i64 (q.2 : Nat)]) ∧ OwnFlds w' w.heap.size v q.1 ∧ Below w.heap.size w w'
theorem head_fin {w w' : World} {q : List Fld × Nat} {fs : List Fld} {k : Nat} {v : Value} {i : Int} (h : q = (fs, k)) (hi : i = (k : Int)) (ho : OwnFlds w' w.heap.size v fs) (hb : Below w.heap.size w w') : HeadPost w q (.returned (.tuple #[v, .int .i64 i])) w' := by
  subst h
  subst hi
  exact ⟨v, rfl, ho, hb⟩
/-- The state of Parse's loop. -/
structure HdRel (w : World) (l : List UInt8) (k : Nat) (fs : List Fld) (v : Value) (wr : World) : Prop where
  eq : headP l = (fs ++ (headP (l.drop k)).1, k + (headP (l.drop k)).2)
  own : OwnFlds wr w.heap.size v fs
  bel : Below w.heap.size w wr
  len : fs.length ≤ k
theorem cut_mid (l : List UInt8) (k m : Nat) : (ba l).extract k (k + m) = ba ((l.drop k).take m) := by rw [ba_cut, List.take_drop]
set_option maxRecDepth 100000 in
set_option maxHeartbeats 4000000 in
theorem hparse_any (l : List UInt8) (w : World) (hl : l.length ≤ 500000000) (hT : Tabs w) :
    Calls Tryz.prog 26 #[.string (ba l)] w (HeadPost w (headP l)) := by
  have HT := Lib.hid hT
  have HCM := Lib.hid (cut_mid l)
  have HCD := Lib.hid (ba_drop l)
  have HENV := Lib.hid (fun k W => hend_any (l.drop k) W (by rw [List.length_drop]; omega))
  have HNUD := Lib.hid (fun k m W => hbare_any ((l.drop k).take m) W (by rw [List.length_take, List.length_drop]; omega))
  have HGOE := Lib.hid (fun k W => hgoes_any (l.drop k) W)
  have HFLD := Lib.hid (fun k m W hW => hfield_any ((l.drop k).take m) W (by rw [List.length_take, List.length_drop]; omega) hW)
  obtain ⟨n, hn⟩ : ∃ n, l.length = n := ⟨_, rfl⟩
  have HL := Lib.hid hn
  obtain ⟨s, hs⟩ : ∃ s, ba l = s := ⟨_, rfl⟩
  have HS := Lib.hid hs
  have HZ := Lib.hid (show s.size = n by rw [← hs, ba_size, hn])
  have hsz : (s.size : Int) = n := by rw [HZ.out]
  rw [hs]
  rw [hn] at hl
  clear hs hn
  simp only [HS.out] at HCM HCD
  clear hT
  go_enter Tryz.func26, Tryz.ntmps26
  go_wp2
  go_loopw [4, 5, 6] (fun v i x wr => ∃ (k : Nat) (fs : List Fld) (y : Value), x = y ∧ k ≤ n ∧ i = .int .i64 (k : Int) ∧ Hid (HdRel w l k fs v wr)) (fun _ i _ _ => n - (intOf i).toNat)
  case atStart => exact ⟨0, [], _, rfl, Nat.zero_le _, rfl, Lib.hid ⟨by rw [List.drop_zero]; simp, OwnFlds.nil_ _ _, Below.refl _ _, Nat.le_refl _⟩⟩
  case round =>
    obtain ⟨k, fs, y, rfl, hk, rfl, HR⟩ := hrel
    have hszr := HR.out.bel.size
    by_cases hlt : k < n
    · have hk2 : (k : Int) < (n : Int) := by omega
      have hk0 : (0 : Int) ≤ (k : Int) := by omega
      have hne : l.drop k ≠ [] := by
        intro h
        have := congrArg List.length h
        rw [List.length_drop, HL.out] at this
        simp at this
        omega
      have hdl : (l.drop k).length = n - k := by rw [List.length_drop, HL.out]
      have he1 := endP_pos hne
      have he2 := endP_le (l.drop k)
      have HHE := Lib.hid (headP_end hne)
      have HHG := Lib.hid (fun h m (hm : endP (l.drop k) + moreL ((l.drop k).drop (endP (l.drop k))) = m) => headP_go hne h hm)
      have HML := Lib.hid (moreL_le ((l.drop k).drop (endP (l.drop k))))
      have HEN := Lib.hid (HENV.out k)
      have hx1 := HCD.out k
      obtain ⟨E, hE⟩ : ∃ E, endP (l.drop k) = E := ⟨_, rfl⟩
      have HNU := Lib.hid (HNUD.out k E)
      simp only [hE] at HEN
      rw [hE] at HHE HML he1 he2
      simp only [hE] at HHG
      have hx2 := HCM.out k E
      have HX1 := Lib.hid hx1
      have HX2 := Lib.hid hx2
      have hkE : k + E ≤ n := by omega
      have hki : (k : Int) + (E : Int) ≤ (n : Int) := by omega
      have hE0 : (0 : Int) ≤ (E : Int) := by omega
      have hEi : (E : Int) ≤ 1000000000 := by omega
      have hki2 : (k : Int) ≤ 1000000000 := by omega
      have hke3 : (k : Int) ≤ (k : Int) + (E : Int) := by omega
      have hke4 : ((k : Int) + (E : Int)).toNat = k + E := by omega
      clear hE hx1 hx2 hne
      by_cases hnn : nudeP ((l.drop k).take E) = []
      · have HF := Lib.hid (show headP l = (fs, k + E) by rw [HR.out.eq, HHE.out hnn, List.append_nil])
        have g1 : (ba (nudeP ((l.drop k).take E))).toList.isEmpty = true := by rw [ba_toList, hnn]; rfl
        have g2 : ((ba (nudeP ((l.drop k).take E))).toList == []) = true := by rw [ba_toList, hnn]; rfl
        clear hnn
        go_wp2_with fail
        rw [HX1.out]
        refine (HEN.out _).mono ?_
        rintro e w2 ⟨rfl, hw⟩
        have hw2 := hw.symm
        subst hw2
        clear hw
        go_wp2_with fail
        rw [HX2.out]
        refine (HNU.out _).mono ?_
        rintro e w2 ⟨rfl, hw⟩
        have hw2 := hw.symm
        subst hw2
        clear hw
        go_wp2
        go_ret2
        exact head_fin HF.out (by omega) HR.out.own HR.out.bel
      · have g1 : (ba (nudeP ((l.drop k).take E))).toList.isEmpty = false := by rw [ba_toList]; simpa using hnn
        have g2 : ((ba (nudeP ((l.drop k).take E))).toList == []) = false := by rw [ba_toList]; simpa using hnn
        have HGG := Lib.hid (HHG.out hnn)
        clear hnn HHE HHG
        obtain ⟨M, hM⟩ : ∃ M, E + moreL ((l.drop k).drop E) = M := ⟨_, rfl⟩
        have HHM := Lib.hid (HGG.out M hM)
        have hMn : k + M ≤ n := by have := HML.out; rw [List.length_drop, hdl] at this; omega
        have hMM := Lib.hid hM
        clear hM HGG hdl
        go_wp2_with fail
        rw [HX1.out]
        refine (HEN.out _).mono ?_
        rintro e w2 ⟨rfl, hw⟩
        have hw2 := hw.symm
        subst hw2
        clear hw
        go_wp2_with fail
        rw [HX2.out]
        refine (HNU.out _).mono ?_
        rintro e w2 ⟨rfl, hw⟩
        have hw2 := hw.symm
        subst hw2
        clear hw
        go_wp2
        obtain ⟨w9, rfl⟩ : ∃ w9, w9 = wr := ⟨_, rfl⟩
        go_loop [6] (fun x => ∃ (N : Nat), E ≤ N ∧ N ≤ M ∧ x = .int .i64 (N : Int) ∧ Hid (N + moreL ((l.drop k).drop N) = M)) (fun x => M - (intOf x).toNat)
        case atStart => exact ⟨E, Nat.le_refl _, by have := hMM.out; omega, rfl, hMM⟩
        case round =>
          obtain ⟨N, hEN, hNM, rfl, HN⟩ := hrel
          have hkN : (k : Int) + (N : Int) ≤ (n : Int) := by omega
          have hN0 : (0 : Int) ≤ (N : Int) := by omega
          have hNi : (N : Int) ≤ 1000000000 := by omega
          have hkN0 : (0 : Int) ≤ (k : Int) + (N : Int) := by omega
          have hkNt : ((k : Int) + (N : Int)).toNat = k + N := by omega
          have hxN := HCD.out (k + N)
          have hdd : (l.drop k).drop N = l.drop (k + N) := List.drop_drop
          have HXN := Lib.hid hxN
          have HNN := Lib.hid (show N + moreL (l.drop (k + N)) = M by rw [← hdd]; exact HN.out)
          have HGO := Lib.hid (HGOE.out (k + N))
          clear hxN hdd HN
          cases hg : goesP (l.drop (k + N)) with
          | true =>
            have HNX := Lib.hid (moreL_yes hg)
            have hlen2 := endP_le (l.drop (k + N))
            have hpos2 := endP_pos (goes_ne hg)
            rw [List.length_drop, HL.out] at hlen2
            have HE2 := Lib.hid (HENV.out (k + N))
            rw [List.drop_drop] at HNX
            simp only [hg] at HGO
            obtain ⟨e2, he2'⟩ : ∃ e, endP (l.drop (k + N)) = e := ⟨_, rfl⟩
            rw [he2'] at hlen2 hpos2 HNX
            simp only [he2'] at HE2
            have he0 : (0 : Int) ≤ (e2 : Int) := by omega
            have hei : (e2 : Int) ≤ 1000000000 := by omega
            have HN2 := Lib.hid (show (N + e2) + moreL ((l.drop k).drop (N + e2)) = M by
              have h1 := HNN.out
              have h2 := HNX.out
              rw [List.drop_drop, show k + (N + e2) = k + N + e2 by omega]
              omega)
            have hle9 : N + e2 ≤ M := by have := HN2.out; omega
            clear hg he2' HNX hlen2
            go_wp2_with fail
            rw [HXN.out]
            refine (HGO.out _).mono ?_
            rintro e w2 ⟨rfl, hw⟩
            have hw2 := hw.symm
            subst hw2
            clear hw
            go_wp2_with fail
            rw [HXN.out]
            refine (HE2.out _).mono ?_
            rintro e w2 ⟨rfl, hw⟩
            have hw2 := hw.symm
            subst hw2
            clear hw
            go_wp2
            go_round
            case rel => exact ⟨N + e2, by omega, hle9, by go_num, HN2⟩
            case measure => simp [intOf] <;> omega
          | false =>
            have HNX := Lib.hid (moreL_no hg)
            simp only [hg] at HGO
            obtain rfl : N = M := by have h1 := HNN.out; have h2 := HNX.out; omega
            clear hg HNX
            have HFI := Lib.hid (fun W hW => HFLD.out k N W hW)
            have hxm := HCM.out k N
            have HXM := Lib.hid hxm
            have HQ := Lib.hid (show headP l = ((fs ++ [fldP ((l.drop k).take N)]) ++ (headP (l.drop (k + N))).1, (k + N) + (headP (l.drop (k + N))).2) by
              rw [HR.out.eq, HHM.out, List.drop_drop]
              simp [Nat.add_assoc])
            unfold FldPost fldV at HFI
            obtain ⟨⟨f1, f2, f3, f4⟩, hf⟩ : ∃ f, fldP ((l.drop k).take N) = f := ⟨_, rfl⟩
            simp only [hf] at HFI
            rw [hf] at HQ
            have HOWN := Lib.hid HR.out.own
            have HBEL := Lib.hid HR.out.bel
            have HFL := Lib.hid (show fs.length ≤ 1000000000 by have := HR.out.len; omega)
            have HFK := Lib.hid HR.out.len
            have hkk : (k : Int) ≤ (k : Int) + (N : Int) := by omega
            clear hf hxm HR
            go_wp2_with fail
            rw [HXN.out]
            refine (HGO.out _).mono ?_
            rintro e w2 ⟨rfl, hw⟩
            have hw2 := hw.symm
            subst hw2
            clear hw
            go_wp2_with fail
            rw [HXM.out]
            refine (HFI.out _ (HT.out.below HBEL.out)).mono ?_
            rintro e w2 ⟨rfl, hb2⟩
            have HO2 := Lib.hid (HOWN.out.below hb2)
            have HB2 := Lib.hid (HBEL.out.trans (hb2.mono hszr))
            have hs2 := HB2.out.size
            have HGR := Lib.hid (show ∀ q, Value.ownBlock _ = some q → w.heap.size ≤ q from fun q e => (HOWN.out.row.lt q e).1)
            clear hb2
            go_wp2_with (at_builtin; go_must (refine wpList_pushFld (W := w2) HO2.out hs2 trivial HFL.out rfl (.tmp 41) (.tmp 49) 1 rfl rfl (by show Value.slice (some ⟨w2.heap.size, 0, none⟩) 1 1 = _; simp) ?_); intro v6 w6 h1 h2; (have HN6 := Lib.hid (show HdRel w l (k + N) (fs ++ [⟨f1, f2, f3, f4⟩]) v6 w6 from ⟨HQ.out, h1, HB2.out.grown h2 hs2 fun q e => HGR.out q e, by rw [List.length_append]; have := HFK.out; simp; omega⟩); clear h1 h2))
            go_roundw
            case rel => exact ⟨k + N, _, _, rfl, by omega, by go_num, HN6⟩
            case measure => simp [intOf] <;> omega
    · obtain rfl : k = n := by omega
      have HF := Lib.hid (show headP l = (fs, k) by
        rw [HR.out.eq, List.drop_of_length_le (by rw [HL.out]; exact Nat.le_refl _), headP_nil, List.append_nil]
        rfl)
      go_wp2
      go_ret2
      exact head_fin HF.out rfl HR.out.own HR.out.bel
end Go.Proofs.YtnpgnohlcphfnaaGreatDoor
