/- CtypeTells: the walk. -/
import Derived.Test.YtnpgnohlcphfnaaGreatDoorRParse
import Derived.Test.YtnpgnohlcphfnaaGreatDoorRDisp
import Derived.Test.YtnpgnohlcphfnaaGreatDoorRCtC
import Derived.Test.YtnpgnohlcphfnaaGreatDoorRCtI
import Derived.Test.YtnpgnohlcphfnaaGreatDoorM17
import Derived.Test.YtnpgnohlcphfnaaGreatDoorM15
import Derived.Test.YtnpgnohlcphfnaaGreatDoorM16
namespace Go.Proofs.YtnpgnohlcphfnaaGreatDoor
open Go.RowKit
set_option linter.unusedVariables false

theorem params_ok {rs : List (List Tok)} (h : ∀ r ∈ rs, (joinP r).length ≤ 10000000) : (paramsP rs).length ≤ rs.length ∧ ∀ p ∈ paramsP rs, p.1.length ≤ 10000000 := by
  constructor
  · unfold paramsP
    refine Nat.le_trans (List.length_filterMap_le _ _) ?_
    have h1 := namesP_len (onesP rs) []
    have h2 := onesP_len rs
    simp only [List.length_nil] at h1
    unfold namesP
    omega
  · intro p hp
    unfold paramsP at hp
    obtain ⟨n, hn, he⟩ := List.mem_filterMap.1 hp
    obtain ⟨v, _, rfl⟩ := Option.map_eq_some_iff.1 he
    rcases namesP_mem (onesP rs) [] n hn with h2 | ⟨o, ho, rfl⟩
    · cases h2
    · exact (onesP_ok h o ho).2
theorem rest_ok {l : List UInt8} (hl : l.length ≤ 10000000) : (paramsP ((tokRows l).drop 1)).length ≤ l.length ∧ ∀ p ∈ paramsP ((tokRows l).drop 1), p.1.length ≤ 10000000 := by
  have h := tokRows_ok l
  have h1 := params_ok (rs := (tokRows l).drop 1) fun r hr => Nat.le_trans (h.1 r (List.mem_of_mem_drop hr)).1 hl
  refine ⟨Nat.le_trans h1.1 ?_, h1.2⟩
  rw [List.length_drop]
  have := h.2
  omega
theorem parseT_ok {l : List UInt8} (hl : l.length ≤ 10000000) : (parseT l).1.params.length ≤ l.length := by
  unfold parseT
  split
  · exact Nat.zero_le _
  · split
    · exact (rest_ok hl).1
    · exact Nat.zero_le _
theorem dispT_ok {l : List UInt8} (hl : l.length ≤ 10000000) : (dispT l).2.length ≤ l.length ∧ ∀ p ∈ (dispT l).2, p.1.length ≤ 10000000 := rest_ok hl
set_option maxRecDepth 100000 in
set_option maxHeartbeats 4000000 in
theorem tells_any (l name : List UInt8) (w : World) (hl : l.length ≤ 9223372036854775807) (hn : name.length ≤ 9223372036854775807) (hT : Tabs w) :
    Calls Tryz.prog 3 #[.string (ba l), .string (ba name)] w (LTrue w) := by
  have HSM := Lib.hid (lsmall_any w hT)
  have HT := Lib.hid hT
  unfold LTrue at HSM
  have HF1 := Lib.hid (fun W => few_any l W)
  have HF2 := Lib.hid (fun W => few_any name W)
  clear hT hl hn
  by_cases h1 : l.length ≤ 2000
  · simp only [decide_eq_true h1] at HF1
    by_cases h2 : name.length ≤ 2000
    · simp only [decide_eq_true h2] at HF2
      have HP1 := Lib.hid (fun W hW => parse_any l W (by omega) (HT.out.below hW))
      have HP2 := Lib.hid (fun W => rparse12_any l W (by omega))
      have HD1 := Lib.hid (fun W hW => disp_any l W (by omega) (HT.out.below hW))
      have HD2 := Lib.hid (fun W => rdisp_any l W (by omega))
      have hpo := parseT_ok (l := l) (by omega)
      have hdo := dispT_ok (l := l) (by omega)
      have HHL := Lib.hid (And.intro h1 h2)
      unfold TypPost at HP1 HP2
      unfold DispPost at HD1 HD2
      obtain ⟨⟨⟨pk, psub, ps⟩, pb⟩, hpt⟩ : ∃ q, parseT l = q := ⟨_, rfl⟩
      obtain ⟨⟨dk, ds⟩, hdt⟩ : ∃ q, dispT l = q := ⟨_, rfl⟩
      simp only [hpt] at HP1 HP2
      simp only [hdt] at HD1 HD2
      rw [hpt] at hpo
      rw [hdt] at hdo
      have HPN := Lib.hid (show ps.length ≤ 1000000000 by have h : ps.length ≤ l.length := hpo; omega)
      have HDN := Lib.hid (show ds.length ≤ 1000000000 by have h : ds.length ≤ l.length := hdo.1; omega)
      have HDE := Lib.hid (show ∀ p ∈ ds, p.1.length ≤ 1000000000 from fun p hp => Nat.le_trans (hdo.2 p hp) (by decide))
      have HNL := Lib.hid (show name.length ≤ 1000000000 by omega)
      clear hpt hdt hpo hdo h1 h2
      obtain ⟨n, hnn⟩ : ∃ n, ps.length = n := ⟨_, rfl⟩
      obtain ⟨m, hmm⟩ : ∃ n, ds.length = n := ⟨_, rfl⟩
      have HPM := Lib.hid (And.intro hnn hmm)
      rw [hnn] at HPN
      rw [hmm] at HDN
      obtain ⟨o, ho⟩ : ∃ o, paramT ds name = o := ⟨_, rfl⟩
      have HPO := Lib.hid ho
      clear ho
      go_enter Tryz.func3, Tryz.ntmps3
      go_wp2_with fail
      refine HSM.out.mono ?_
      rintro e w1 ⟨rfl, hb1⟩
      have HB1 := Lib.hid hb1
      clear hb1 HSM
      go_wp2_with fail
      refine (HF1.out _).mono ?_
      rintro e w2 ⟨rfl, hw⟩
      have hw2 := hw.symm
      subst hw2
      clear hw
      go_wp2_with fail
      refine (HF2.out _).mono ?_
      rintro e w2 ⟨rfl, hw⟩
      have hw2 := hw.symm
      subst hw2
      clear hw
      go_wp2_with fail
      refine (HP1.out w1 HB1.out).mono ?_
      rintro e w2 ⟨v2, rfl, ho2, hb2⟩
      obtain ⟨A2, c2, rfl, -, -, hpa2⟩ := ho2.reads
      have HA2 := Lib.hid hpa2
      have HB2 := Lib.hid (HB1.out.trans (hb2.mono HB1.out.size))
      rw [hnn] at HA2 ⊢
      clear hb2 ho2 hpa2
      have a0 : (w2.alloc (.cells #[.string (ba pk), .string (ba psub), .slice A2 n c2] 26)).cell? ⟨w2.heap.size, 0, none⟩ = some (.string (ba pk)) := by simp
      have a1 : (w2.alloc (.cells #[.string (ba pk), .string (ba psub), .slice A2 n c2] 26)).cell? ⟨w2.heap.size, 1, none⟩ = some (.string (ba psub)) := by simp
      have a2 : (w2.alloc (.cells #[.string (ba pk), .string (ba psub), .slice A2 n c2] 26)).cell? ⟨w2.heap.size, 2, none⟩ = some (.slice A2 n c2) := by simp
      have HX2 := Lib.hid (HA2.out.below ((Below.refl _ _).alloc (Nat.le_refl _) (.cells #[.string (ba pk), .string (ba psub), .slice A2 n c2] 26)))
      have HB2a := Lib.hid (HB2.out.alloc HB2.out.size (.cells #[.string (ba pk), .string (ba psub), .slice A2 n c2] 26))
      have hlt2 : w2.heap.size < (w2.alloc (.cells #[.string (ba pk), .string (ba psub), .slice A2 n c2] 26)).heap.size := by simp
      have HA := Lib.hid (And.intro a0 (And.intro a1 a2))
      clear a0 a1 a2
      go_wp2_with fail
      obtain ⟨u2, hu2⟩ : ∃ u, w2.alloc (.cells #[.string (ba pk), .string (ba psub), .slice A2 n c2] 26) = u := ⟨_, rfl⟩
      rw [hu2] at HX2 HB2a hlt2 HA
      rw [hu2]
      clear hu2
      refine (HP2.out _).mono ?_
      rintro e w3 ⟨v3, rfl, ho3, hb3⟩
      obtain ⟨A3, c3, rfl, -, -, hpa3⟩ := ho3.reads
      have HA3 := Lib.hid hpa3
      have HB3u := Lib.hid hb3
      rw [hnn] at HA3 ⊢
      clear hb3 ho3 hpa3
      have HC := Lib.hid (show ∀ x, x = w3.alloc (.cells #[.string (ba pk), .string (ba psub), .slice A3 n c3] 26) → x.cell? ⟨w3.heap.size, 0, none⟩ = some (.string (ba pk)) ∧ x.cell? ⟨w3.heap.size, 1, none⟩ = some (.string (ba psub)) ∧ x.cell? ⟨w3.heap.size, 2, none⟩ = some (.slice A3 n c3) ∧ Below w3.heap.size w3 x ∧ w3.heap.size < x.heap.size from by
        rintro x rfl
        exact ⟨by simp, by simp, by simp, (Below.refl _ _).alloc (Nat.le_refl _) _, by simp⟩)
      go_wp2_with fail
      obtain ⟨u3, hu3⟩ : ∃ u, w3.alloc (.cells #[.string (ba pk), .string (ba psub), .slice A3 n c3] 26) = u := ⟨_, rfl⟩
      obtain ⟨b0, b1, b2, hbu, hlt3⟩ := HC.out u3 hu3.symm
      rw [hu3]
      have HBC := Lib.hid (And.intro b0 (And.intro b1 b2))
      have HX3 := Lib.hid (HA3.out.below hbu)
      have HB3 := Lib.hid (HB3u.out.trans (hbu.mono HB3u.out.size))
      clear b0 b1 b2 hbu hu3
      refine (HD1.out u3 (HB2a.out.trans (HB3.out.mono HB2a.out.size))).mono ?_
      rintro e w4 ⟨v4, rfl, ho4, hb4⟩
      obtain ⟨A4, c4, rfl, -, -, hpa4⟩ := ho4.reads
      have HA4 := Lib.hid hpa4
      have HB4 := Lib.hid hb4
      rw [hmm] at HA4 ⊢
      clear hb4 ho4 hpa4
      go_wp2_with fail
      refine (HD2.out w4).mono ?_
      rintro e w5 ⟨v5, rfl, ho5, hb5⟩
      obtain ⟨A5, c5, rfl, -, -, hpa5⟩ := ho5.reads
      have HA5 := Lib.hid hpa5
      have HB5 := Lib.hid hb5
      rw [hmm] at HA5 ⊢
      clear hb5 ho5 hpa5
      have HM1 := Lib.hid (param_any ds name A4 m c4 w5 ((HA4.out.below HB5.out).more HB5.out.size) HDN.out HDE.out HNL.out)
      unfold ParPost at HM1
      rw [HPO.out] at HM1
      go_wp2_with fail
      refine HM1.out.mono ?_
      rintro e w6 ⟨rfl, hb6⟩
      have HB6 := Lib.hid hb6
      clear hb6
      have HM2 := Lib.hid (rparam_any ds name A5 m c5 w6 ((HA5.out.below HB6.out).more HB6.out.size) HDN.out HDE.out HNL.out)
      unfold ParPost at HM2
      rw [HPO.out] at HM2
      go_wp2_with fail
      refine HM2.out.mono ?_
      rintro e w7 ⟨rfl, hb7⟩
      have HB7 := Lib.hid hb7
      clear hb7
      have HB37 := Lib.hid (show Below u3.heap.size u3 w7 from HB4.out.trans ((HB5.out.trans ((HB6.out.trans (HB7.out.mono HB6.out.size)).mono HB5.out.size)).mono HB4.out.size))
      have HB27 := Lib.hid (show Below u2.heap.size u2 w7 from HB3.out.trans (HB37.out.mono HB3.out.size))
      have a0 : w7.cell? ⟨w2.heap.size, 0, none⟩ = some (.string (ba pk)) := (HB27.out.cell (p := ⟨w2.heap.size, 0, none⟩) hlt2).trans HA.out.1
      have a1 : w7.cell? ⟨w2.heap.size, 1, none⟩ = some (.string (ba psub)) := (HB27.out.cell (p := ⟨w2.heap.size, 1, none⟩) hlt2).trans HA.out.2.1
      have a2 : w7.cell? ⟨w2.heap.size, 2, none⟩ = some (.slice A2 n c2) := (HB27.out.cell (p := ⟨w2.heap.size, 2, none⟩) hlt2).trans HA.out.2.2
      have b0 : w7.cell? ⟨w3.heap.size, 0, none⟩ = some (.string (ba pk)) := (HB37.out.cell (p := ⟨w3.heap.size, 0, none⟩) hlt3).trans HBC.out.1
      have b1 : w7.cell? ⟨w3.heap.size, 1, none⟩ = some (.string (ba psub)) := (HB37.out.cell (p := ⟨w3.heap.size, 1, none⟩) hlt3).trans HBC.out.2.1
      have b2 : w7.cell? ⟨w3.heap.size, 2, none⟩ = some (.slice A3 n c3) := (HB37.out.cell (p := ⟨w3.heap.size, 2, none⟩) hlt3).trans HBC.out.2.2
      have HS := Lib.hid (rsame_any pk psub pk psub ps ps A2 A3 n n c2 c3 w7 (((HX2.out.more (Nat.le_of_lt hlt2)).below HB27.out).more HB27.out.size) (((HX3.out.more (Nat.le_of_lt hlt3)).below HB37.out).more HB37.out.size) HPN.out HPN.out)
      unfold EqPost at HS
      rw [show (decide (pk = pk) && (decide (psub = psub) && decide (ps = ps))) = true by simp] at HS
      have HB07 := Lib.hid (HB2a.out.trans (HB27.out.mono HB2a.out.size))
      go_wp2_with fail
      refine HS.out.mono ?_
      rintro e w8 ⟨rfl, hb8⟩
      have HB8 := Lib.hid hb8
      clear hb8
      have HB58 := Lib.hid (show Below w5.heap.size w5 w8 from HB6.out.trans ((HB7.out.trans (HB8.out.mono HB7.out.size)).mono HB6.out.size))
      have HB48 := Lib.hid (show Below w4.heap.size w4 w8 from HB5.out.trans (HB58.out.mono HB5.out.size))
      have HE := Lib.hid (rparams_any ds ds A4 A5 m m c4 c5 w8 ((HA4.out.below HB48.out).more HB48.out.size) ((HA5.out.below HB58.out).more HB58.out.size) HDN.out HDN.out)
      unfold EqPost at HE
      rw [show decide (ds = ds) = true by simp] at HE
      have g1 : (pb == pb) = true := by simp
      have g2 : ((ba dk).toList == (ba dk).toList) = true := by simp
      have g3 : ((ba (o.getD [])).toList == (ba (o.getD [])).toList) = true := by simp
      have g4 : (o.isSome == o.isSome) = true := by simp
      go_wp2_with fail
      refine HE.out.mono ?_
      rintro e w9 ⟨rfl, hb9⟩
      have HB9 := Lib.hid hb9
      clear hb9
      go_wp2
      go_ret
      exact ⟨rfl, HB07.out.trans ((HB8.out.trans (HB9.out.mono HB8.out.size)).mono HB07.out.size)⟩
    · simp only [decide_eq_false h2] at HF2
      clear h1 h2
      go_enter Tryz.func3, Tryz.ntmps3
      go_wp2_with fail
      refine HSM.out.mono ?_
      rintro e w1 ⟨rfl, hb1⟩
      have HB1 := Lib.hid hb1
      clear hb1 HSM
      go_wp2_with fail
      refine (HF1.out _).mono ?_
      rintro e w2 ⟨rfl, hw⟩
      have hw2 := hw.symm
      subst hw2
      clear hw
      go_wp2_with fail
      refine (HF2.out _).mono ?_
      rintro e w2 ⟨rfl, hw⟩
      have hw2 := hw.symm
      subst hw2
      clear hw
      go_wp2
      go_ret
      exact ⟨rfl, HB1.out⟩
  · simp only [decide_eq_false h1] at HF1
    clear h1
    go_enter Tryz.func3, Tryz.ntmps3
    go_wp2_with fail
    refine HSM.out.mono ?_
    rintro e w1 ⟨rfl, hb1⟩
    have HB1 := Lib.hid hb1
    clear hb1 HSM
    go_wp2_with fail
    refine (HF1.out _).mono ?_
    rintro e w2 ⟨rfl, hw⟩
    have hw2 := hw.symm
    subst hw2
    clear hw
    go_wp2
    go_ret
    exact ⟨rfl, HB1.out⟩
end Go.Proofs.YtnpgnohlcphfnaaGreatDoor
