/- Layer 5, plain: folding by units, as the reference does it. Layer 32: the reference's class of a rune (printed by gen_rkind.py). Layer 32: a row of words under way (texts and ranges), one cell of it set; the class of a unit by the reference. Layer 32, plain: the state of the reference's Words. Layer 5: the reference's lower, from 0 to 312 (printed by gen_rlower.py). Layer 5: the reference's lower, from 313 to 908 (printed by gen_rlower.py). Layer 5: the reference's lower, from 909 to 2047 (printed by gen_rlower.py). Layer 5: the reference's lower, below 2048 (printed by gen_rlower.py). -/
import Derived.Test.YtomcdhmcjndioaaGreatDoorV14
import Derived.Test.YtomcdhmcjndioaaGreatDoorV02
import Derived.Test.YtomcdhmcjndioaaGreatDoorV07
import Derived.Test.YtomcdhmcjndioaaGreatDoorV09
import Derived.Test.YtomcdhmcjndioaaGreatDoorV04
import Derived.Test.YtomcdhmcjndioaaGreatDoorV01
section
namespace Go.Proofs.YtomcdhmcjndioaaGreatDoor
set_option linter.unusedVariables false

/-- What the reference appends for a unit. -/
def gU (u : List UInt8) : List UInt8 :=
  if u.length = 1 then (if bt u 0 < 128 then [UInt8.ofNat (rlower (bt u 0)).toNat] else u)
  else if u.length = 2 then [UInt8.ofNat (192 + (rlower (rv u)).toNat / 64), UInt8.ofNat (128 + (rlower (rv u)).toNat % 64)]
  else u
theorem gU_take {l : List UInt8} (h : l ≠ []) : gU (l.take (uN l).2) = foldU l := by
  have hp := uN_pos l h
  have h2 := uN_cases l h
  obtain ⟨⟨r, n⟩, hq⟩ : ∃ q, uN l = q := ⟨_, rfl⟩
  unfold foldU
  rw [hq] at hp h2
  rw [hq]
  dsimp only at hp h2 ⊢
  have hl : (l.take n).length = n := by rw [List.length_take]; omega
  unfold gU
  rw [hl, bt_take (by omega)]
  by_cases h1 : n = 1
  · subst h1
    rw [if_pos rfl, if_pos rfl]
  · rw [if_neg h1, if_neg h1]
    by_cases h3 : n = 2
    · subst h3
      rw [if_pos rfl, if_pos rfl]
      have hv : rv (l.take 2) = r := by
        unfold rv
        rw [hl, if_neg (by omega)]
        show bt (l.take 2) 0 % mo (l.take 2).length * 64 + bt (l.take 2) 1 % 64 = _
        rw [hl, bt_take (by omega), bt_take (by omega)]
        show bt l 0 % 32 * 64 + bt l 1 % 64 = r
        omega
      rw [hv]
    · rw [if_neg h3, if_neg h3]
theorem fold_units : ∀ (k : Nat) (l : List UInt8), l.length ≤ k → foldP l = (unitsP l).flatMap gU
  | 0, l, h => by
    have : l = [] := List.eq_nil_of_length_eq_zero (by omega)
    subst this
    rfl
  | k + 1, l, h => by
    by_cases hl : l = []
    · subst hl; rfl
    · have hp := uN_pos l hl
      rw [foldP_cons hl, unitsP_cons hl, List.flatMap_cons, gU_take hl, fold_units k _ (by rw [List.length_drop]; omega)]
theorem units_mem : ∀ (k : Nat) (l : List UInt8), l.length ≤ k → ∀ u, u ∈ unitsP l → 1 ≤ u.length ∧ u.length ≤ 4
  | 0, l, h, u, hu => by
    have : l = [] := List.eq_nil_of_length_eq_zero (by omega)
    subst this
    cases hu
  | k + 1, l, h, u, hu => by
    by_cases hl : l = []
    · subst hl; cases hu
    · have hp := uN_pos l hl
      rw [unitsP_cons hl] at hu
      rcases List.mem_cons.1 hu with rfl | hu
      · rw [List.length_take]; omega
      · exact units_mem k _ (by rw [List.length_drop]; omega) u hu
theorem gU_len (u : List UInt8) (h : u.length ≤ 4) : (gU u).length ≤ 4 := by
  unfold gU
  repeat' split
  all_goals first | exact h | simp
theorem gU_all (us : List (List UInt8)) (h : ∀ u, u ∈ us → u.length ≤ 4) : (us.flatMap gU).length ≤ 4 * us.length := by
  induction us with
  | nil => simp
  | cons u r ih =>
    have h1 := gU_len u (h u (List.mem_cons_self ..))
    have h2 := ih fun v hv => h v (List.mem_cons_of_mem _ hv)
    rw [List.flatMap_cons, List.length_append, List.length_cons]
    omega
theorem units_len : ∀ (k : Nat) (l : List UInt8), l.length ≤ k → (unitsP l).length ≤ l.length
  | 0, l, h => by
    have : l = [] := List.eq_nil_of_length_eq_zero (by omega)
    subst this
    simp [unitsP_nil]
  | k + 1, l, h => by
    by_cases hl : l = []
    · subst hl; simp [unitsP_nil]
    · have hp := uN_pos l hl
      have h1 := units_len k (l.drop (uN l).2) (by rw [List.length_drop]; omega)
      rw [unitsP_cons hl, List.length_cons]
      rw [List.length_drop] at h1
      omega
end Go.Proofs.YtomcdhmcjndioaaGreatDoor
end
section
namespace Go.Proofs.YtomcdhmcjndioaaGreatDoor
open Go.RowKit
set_option linter.unusedVariables false

theorem rin_yes (n lo hi : Int) (w : World) (h0 : lo ≤ n) (h1 : n ≤ hi) : Calls Tryz.prog 177 #[.int .i64 n, .int .i64 lo, .int .i64 hi] w fun e w' => e = .returned (.bool true) ∧ w' = w := by
  go_enter Tryz.func177, Tryz.ntmps177
  go_wp2
  go_ret
  exact ⟨rfl, rfl⟩
theorem rin_no (n lo hi : Int) (w : World) (h : ¬ (lo ≤ n ∧ n ≤ hi)) : Calls Tryz.prog 177 #[.int .i64 n, .int .i64 lo, .int .i64 hi] w fun e w' => e = .returned (.bool false) ∧ w' = w := by
  by_cases h0 : lo ≤ n
  · have h1 : ¬ n ≤ hi := fun e => h ⟨h0, e⟩
    clear h
    go_enter Tryz.func177, Tryz.ntmps177
    go_wp2
    go_ret
    exact ⟨rfl, rfl⟩
  · clear h
    go_enter Tryz.func177, Tryz.ntmps177
    go_wp2
    go_ret
    exact ⟨rfl, rfl⟩
set_option maxRecDepth 100000 in
set_option maxHeartbeats 40000000 in
theorem rkind_any (r : Int) (w : World) : Calls Tryz.prog 165 #[.int .i64 r] w fun e w' => e = .returned (.int .i64 (kindP r)) ∧ w' = w := by
  go_enter Tryz.func165, Tryz.ntmps165
  go_wp2_with fail
  by_cases h1 : 11904 ≤ r ∧ r ≤ 12255
  · obtain ⟨ha, hb⟩ := h1
    have HK := Lib.hid (show kindP r = 2 by unfold kindP kOwn kWord kNone; simp only [decide_eq_true_eq]; repeat' split; all_goals omega)
    refine (rin_yes r 11904 12255 _ ha hb).mono ?_
    rintro e w' ⟨rfl, rfl⟩
    go_wp2
    go_ret
    exact ⟨by rw [HK.out]; rfl, rfl⟩
  have H1 := Lib.hid h1
  clear h1
  refine (rin_no r 11904 12255 _ H1.out).mono ?_
  rintro e w' ⟨rfl, rfl⟩
  go_wp2_with fail
  by_cases h2 : 12353 ≤ r ∧ r ≤ 12543
  · obtain ⟨ha, hb⟩ := h2
    have HK := Lib.hid (show kindP r = 2 by unfold kindP kOwn kWord kNone; simp only [decide_eq_true_eq]; repeat' split; all_goals omega)
    refine (rin_yes r 12353 12543 _ ha hb).mono ?_
    rintro e w' ⟨rfl, rfl⟩
    go_wp2
    go_ret
    exact ⟨by rw [HK.out]; rfl, rfl⟩
  have H2 := Lib.hid h2
  clear h2
  refine (rin_no r 12353 12543 _ H2.out).mono ?_
  rintro e w' ⟨rfl, rfl⟩
  go_wp2_with fail
  by_cases h3 : 12549 ≤ r ∧ r ≤ 12591
  · obtain ⟨ha, hb⟩ := h3
    have HK := Lib.hid (show kindP r = 2 by unfold kindP kOwn kWord kNone; simp only [decide_eq_true_eq]; repeat' split; all_goals omega)
    refine (rin_yes r 12549 12591 _ ha hb).mono ?_
    rintro e w' ⟨rfl, rfl⟩
    go_wp2
    go_ret
    exact ⟨by rw [HK.out]; rfl, rfl⟩
  have H3 := Lib.hid h3
  clear h3
  refine (rin_no r 12549 12591 _ H3.out).mono ?_
  rintro e w' ⟨rfl, rfl⟩
  go_wp2_with fail
  by_cases h4 : 12593 ≤ r ∧ r ≤ 12686
  · obtain ⟨ha, hb⟩ := h4
    have HK := Lib.hid (show kindP r = 2 by unfold kindP kOwn kWord kNone; simp only [decide_eq_true_eq]; repeat' split; all_goals omega)
    refine (rin_yes r 12593 12686 _ ha hb).mono ?_
    rintro e w' ⟨rfl, rfl⟩
    go_wp2
    go_ret
    exact ⟨by rw [HK.out]; rfl, rfl⟩
  have H4 := Lib.hid h4
  clear h4
  refine (rin_no r 12593 12686 _ H4.out).mono ?_
  rintro e w' ⟨rfl, rfl⟩
  go_wp2_with fail
  by_cases h5 : 13312 ≤ r ∧ r ≤ 19903
  · obtain ⟨ha, hb⟩ := h5
    have HK := Lib.hid (show kindP r = 2 by unfold kindP kOwn kWord kNone; simp only [decide_eq_true_eq]; repeat' split; all_goals omega)
    refine (rin_yes r 13312 19903 _ ha hb).mono ?_
    rintro e w' ⟨rfl, rfl⟩
    go_wp2
    go_ret
    exact ⟨by rw [HK.out]; rfl, rfl⟩
  have H5 := Lib.hid h5
  clear h5
  refine (rin_no r 13312 19903 _ H5.out).mono ?_
  rintro e w' ⟨rfl, rfl⟩
  go_wp2_with fail
  by_cases h6 : 19968 ≤ r ∧ r ≤ 40959
  · obtain ⟨ha, hb⟩ := h6
    have HK := Lib.hid (show kindP r = 2 by unfold kindP kOwn kWord kNone; simp only [decide_eq_true_eq]; repeat' split; all_goals omega)
    refine (rin_yes r 19968 40959 _ ha hb).mono ?_
    rintro e w' ⟨rfl, rfl⟩
    go_wp2
    go_ret
    exact ⟨by rw [HK.out]; rfl, rfl⟩
  have H6 := Lib.hid h6
  clear h6
  refine (rin_no r 19968 40959 _ H6.out).mono ?_
  rintro e w' ⟨rfl, rfl⟩
  go_wp2_with fail
  by_cases h7 : 44032 ≤ r ∧ r ≤ 55203
  · obtain ⟨ha, hb⟩ := h7
    have HK := Lib.hid (show kindP r = 2 by unfold kindP kOwn kWord kNone; simp only [decide_eq_true_eq]; repeat' split; all_goals omega)
    refine (rin_yes r 44032 55203 _ ha hb).mono ?_
    rintro e w' ⟨rfl, rfl⟩
    go_wp2
    go_ret
    exact ⟨by rw [HK.out]; rfl, rfl⟩
  have H7 := Lib.hid h7
  clear h7
  refine (rin_no r 44032 55203 _ H7.out).mono ?_
  rintro e w' ⟨rfl, rfl⟩
  go_wp2_with fail
  by_cases h8 : 63744 ≤ r ∧ r ≤ 64255
  · obtain ⟨ha, hb⟩ := h8
    have HK := Lib.hid (show kindP r = 2 by unfold kindP kOwn kWord kNone; simp only [decide_eq_true_eq]; repeat' split; all_goals omega)
    refine (rin_yes r 63744 64255 _ ha hb).mono ?_
    rintro e w' ⟨rfl, rfl⟩
    go_wp2
    go_ret
    exact ⟨by rw [HK.out]; rfl, rfl⟩
  have H8 := Lib.hid h8
  clear h8
  refine (rin_no r 63744 64255 _ H8.out).mono ?_
  rintro e w' ⟨rfl, rfl⟩
  go_wp2_with fail
  by_cases h9 : 131072 ≤ r ∧ r ≤ 262143
  · obtain ⟨ha, hb⟩ := h9
    have HK := Lib.hid (show kindP r = 2 by unfold kindP kOwn kWord kNone; simp only [decide_eq_true_eq]; repeat' split; all_goals omega)
    refine (rin_yes r 131072 262143 _ ha hb).mono ?_
    rintro e w' ⟨rfl, rfl⟩
    go_wp2
    go_ret
    exact ⟨by rw [HK.out]; rfl, rfl⟩
  have H9 := Lib.hid h9
  clear h9
  refine (rin_no r 131072 262143 _ H9.out).mono ?_
  rintro e w' ⟨rfl, rfl⟩
  go_wp2_with fail
  by_cases h10 : 48 ≤ r ∧ r ≤ 57
  · obtain ⟨ha, hb⟩ := h10
    have HK := Lib.hid (show kindP r = 1 by unfold kindP kOwn kWord kNone; simp only [decide_eq_true_eq]; repeat' split; all_goals omega)
    refine (rin_yes r 48 57 _ ha hb).mono ?_
    rintro e w' ⟨rfl, rfl⟩
    go_wp2
    go_ret
    exact ⟨by rw [HK.out]; rfl, rfl⟩
  have H10 := Lib.hid h10
  clear h10
  refine (rin_no r 48 57 _ H10.out).mono ?_
  rintro e w' ⟨rfl, rfl⟩
  go_wp2_with fail
  by_cases h11 : 65 ≤ r ∧ r ≤ 90
  · obtain ⟨ha, hb⟩ := h11
    have HK := Lib.hid (show kindP r = 1 by unfold kindP kOwn kWord kNone; simp only [decide_eq_true_eq]; repeat' split; all_goals omega)
    refine (rin_yes r 65 90 _ ha hb).mono ?_
    rintro e w' ⟨rfl, rfl⟩
    go_wp2
    go_ret
    exact ⟨by rw [HK.out]; rfl, rfl⟩
  have H11 := Lib.hid h11
  clear h11
  refine (rin_no r 65 90 _ H11.out).mono ?_
  rintro e w' ⟨rfl, rfl⟩
  go_wp2_with fail
  by_cases h12 : 97 ≤ r ∧ r ≤ 122
  · obtain ⟨ha, hb⟩ := h12
    have HK := Lib.hid (show kindP r = 1 by unfold kindP kOwn kWord kNone; simp only [decide_eq_true_eq]; repeat' split; all_goals omega)
    refine (rin_yes r 97 122 _ ha hb).mono ?_
    rintro e w' ⟨rfl, rfl⟩
    go_wp2
    go_ret
    exact ⟨by rw [HK.out]; rfl, rfl⟩
  have H12 := Lib.hid h12
  clear h12
  refine (rin_no r 97 122 _ H12.out).mono ?_
  rintro e w' ⟨rfl, rfl⟩
  by_cases g215 : r = 215
  · subst g215
    have HK := Lib.hid (show kindP 215 = 0 by decide)
    go_wp2
    go_ret
    exact ⟨by rw [HK.out]; rfl, rfl⟩
  have e215 : (r == 215) = false := by simpa using g215
  by_cases g247 : r = 247
  · subst g247
    have HK := Lib.hid (show kindP 247 = 0 by decide)
    go_wp2
    go_ret
    exact ⟨by rw [HK.out]; rfl, rfl⟩
  have e247 : (r == 247) = false := by simpa using g247
  have G1 := Lib.hid g215
  have G2 := Lib.hid g247
  clear g215 g247
  go_wp2_with fail
  by_cases h13 : 8192 ≤ r ∧ r ≤ 11263
  · obtain ⟨ha, hb⟩ := h13
    have HK := Lib.hid (show kindP r = 0 by unfold kindP kOwn kWord kNone; simp only [decide_eq_true_eq]; repeat' split; all_goals omega)
    refine (rin_yes r 8192 11263 _ ha hb).mono ?_
    rintro e w' ⟨rfl, rfl⟩
    go_wp2
    go_ret
    exact ⟨by rw [HK.out]; rfl, rfl⟩
  have H13 := Lib.hid h13
  clear h13
  refine (rin_no r 8192 11263 _ H13.out).mono ?_
  rintro e w' ⟨rfl, rfl⟩
  go_wp2_with fail
  by_cases h14 : 12288 ≤ r ∧ r ≤ 12351
  · obtain ⟨ha, hb⟩ := h14
    have HK := Lib.hid (show kindP r = 0 by unfold kindP kOwn kWord kNone; simp only [decide_eq_true_eq]; repeat' split; all_goals omega)
    refine (rin_yes r 12288 12351 _ ha hb).mono ?_
    rintro e w' ⟨rfl, rfl⟩
    go_wp2
    go_ret
    exact ⟨by rw [HK.out]; rfl, rfl⟩
  have H14 := Lib.hid h14
  clear h14
  refine (rin_no r 12288 12351 _ H14.out).mono ?_
  rintro e w' ⟨rfl, rfl⟩
  go_wp2_with fail
  by_cases h15 : 55296 ≤ r ∧ r ≤ 63743
  · obtain ⟨ha, hb⟩ := h15
    have HK := Lib.hid (show kindP r = 0 by unfold kindP kOwn kWord kNone; simp only [decide_eq_true_eq]; repeat' split; all_goals omega)
    refine (rin_yes r 55296 63743 _ ha hb).mono ?_
    rintro e w' ⟨rfl, rfl⟩
    go_wp2
    go_ret
    exact ⟨by rw [HK.out]; rfl, rfl⟩
  have H15 := Lib.hid h15
  clear h15
  refine (rin_no r 55296 63743 _ H15.out).mono ?_
  rintro e w' ⟨rfl, rfl⟩
  go_wp2_with fail
  by_cases h16 : 65024 ≤ r ∧ r ≤ 65039
  · obtain ⟨ha, hb⟩ := h16
    have HK := Lib.hid (show kindP r = 0 by unfold kindP kOwn kWord kNone; simp only [decide_eq_true_eq]; repeat' split; all_goals omega)
    refine (rin_yes r 65024 65039 _ ha hb).mono ?_
    rintro e w' ⟨rfl, rfl⟩
    go_wp2
    go_ret
    exact ⟨by rw [HK.out]; rfl, rfl⟩
  have H16 := Lib.hid h16
  clear h16
  refine (rin_no r 65024 65039 _ H16.out).mono ?_
  rintro e w' ⟨rfl, rfl⟩
  go_wp2_with fail
  by_cases h17 : 65072 ≤ r ∧ r ≤ 65135
  · obtain ⟨ha, hb⟩ := h17
    have HK := Lib.hid (show kindP r = 0 by unfold kindP kOwn kWord kNone; simp only [decide_eq_true_eq]; repeat' split; all_goals omega)
    refine (rin_yes r 65072 65135 _ ha hb).mono ?_
    rintro e w' ⟨rfl, rfl⟩
    go_wp2
    go_ret
    exact ⟨by rw [HK.out]; rfl, rfl⟩
  have H17 := Lib.hid h17
  clear h17
  refine (rin_no r 65072 65135 _ H17.out).mono ?_
  rintro e w' ⟨rfl, rfl⟩
  go_wp2_with fail
  by_cases h18 : 65280 ≤ r ∧ r ≤ 65295
  · obtain ⟨ha, hb⟩ := h18
    have HK := Lib.hid (show kindP r = 0 by unfold kindP kOwn kWord kNone; simp only [decide_eq_true_eq]; repeat' split; all_goals omega)
    refine (rin_yes r 65280 65295 _ ha hb).mono ?_
    rintro e w' ⟨rfl, rfl⟩
    go_wp2
    go_ret
    exact ⟨by rw [HK.out]; rfl, rfl⟩
  have H18 := Lib.hid h18
  clear h18
  refine (rin_no r 65280 65295 _ H18.out).mono ?_
  rintro e w' ⟨rfl, rfl⟩
  go_wp2_with fail
  by_cases h19 : 65520 ≤ r ∧ r ≤ 65535
  · obtain ⟨ha, hb⟩ := h19
    have HK := Lib.hid (show kindP r = 0 by unfold kindP kOwn kWord kNone; simp only [decide_eq_true_eq]; repeat' split; all_goals omega)
    refine (rin_yes r 65520 65535 _ ha hb).mono ?_
    rintro e w' ⟨rfl, rfl⟩
    go_wp2
    go_ret
    exact ⟨by rw [HK.out]; rfl, rfl⟩
  have H19 := Lib.hid h19
  clear h19
  refine (rin_no r 65520 65535 _ H19.out).mono ?_
  rintro e w' ⟨rfl, rfl⟩
  go_wp2_with fail
  by_cases h20 : 126976 ≤ r ∧ r ≤ 129791
  · obtain ⟨ha, hb⟩ := h20
    have HK := Lib.hid (show kindP r = 0 by unfold kindP kOwn kWord kNone; simp only [decide_eq_true_eq]; repeat' split; all_goals omega)
    refine (rin_yes r 126976 129791 _ ha hb).mono ?_
    rintro e w' ⟨rfl, rfl⟩
    go_wp2
    go_ret
    exact ⟨by rw [HK.out]; rfl, rfl⟩
  have H20 := Lib.hid h20
  clear h20
  refine (rin_no r 126976 129791 _ H20.out).mono ?_
  rintro e w' ⟨rfl, rfl⟩
  have hk : kindP r = if r < 192 ∨ 1114111 < r then 0 else 1 := by
    have a1 := H1.out; have a2 := H2.out; have a3 := H3.out; have a4 := H4.out; have a5 := H5.out; have a6 := H6.out; have a7 := H7.out; have a8 := H8.out; have a9 := H9.out; have a10 := H10.out; have a11 := H11.out; have a12 := H12.out; have a13 := H13.out; have a14 := H14.out; have a15 := H15.out; have a16 := H16.out; have a17 := H17.out; have a18 := H18.out; have a19 := H19.out; have a20 := H20.out; have b1 := G1.out; have b2 := G2.out; unfold kindP kOwn kWord kNone; simp only [decide_eq_true_eq]
    repeat' split
    all_goals omega
  by_cases c1 : r < 192
  · have HK := Lib.hid (show kindP r = 0 by rw [hk, if_pos (.inl c1)])
    clear hk
    go_wp2
    go_ret
    exact ⟨by rw [HK.out]; rfl, rfl⟩
  by_cases c2 : 1114111 < r
  · have HK := Lib.hid (show kindP r = 0 by rw [hk, if_pos (.inr c2)])
    clear hk
    go_wp2
    go_ret
    exact ⟨by rw [HK.out]; rfl, rfl⟩
  have HK := Lib.hid (show kindP r = 1 by rw [hk, if_neg (by omega)])
  clear hk
  go_wp2
  go_ret
  exact ⟨by rw [HK.out]; rfl, rfl⟩
end Go.Proofs.YtomcdhmcjndioaaGreatDoor
end
section
namespace Go.Proofs.YtomcdhmcjndioaaGreatDoor
open Go.RowKit
set_option linter.unusedVariables false

theorem ownsRow_set {w : World} {B : Nat} {e : TypeId} {size n cap g i : Nat} {xs : List Value} (h : w.ownsRow B e size (.slice (some ⟨g, 0, none⟩) n cap) n xs) (hi : i < xs.length) (u : Value) : (w.setCell ⟨g, i, none⟩ u).ownsRow B e size (.slice (some ⟨g, 0, none⟩) n cap) n (xs.set i u) := by
  refine ⟨by rw [List.length_set]; exact h.1, ?_⟩
  rcases h.2 with ⟨e1, _⟩ | ⟨g', cap', cur, e1, hb, hg, h1, h2, h3, h4⟩
  · cases e1
  · injection e1 with e1 e2 e3
    injection e1 with e1
    injection e1 with e1
    subst e1; subst e3
    refine .inr ⟨g, cap, cur.setIfInBounds i u, rfl, hb, heap_setCell_same w g i cur e u hg, h1, h2, by simpa using h3, ?_⟩
    rw [Array.toList_setIfInBounds, List.take_set, h4]
/-- A word under way: its text and its range. -/
abbrev Wd := List UInt8 × Nat × Nat
def wdCells (t : Wd) : List Value := [.string (ba t.1), .int .i64 t.2.1, .int .i64 t.2.2]
def OwnWds (w : World) (B : Nat) (v : Value) (ts : List Wd) : Prop := w.ownsRow B 69 3 v ts.length (ts.flatMap wdCells)
theorem OwnWds.nil_ (w : World) (B : Nat) : OwnWds w B (.slice none 0 0) [] := World.ownsRow_nil _ _ _ _
theorem OwnWds.below {w w' : World} {B : Nat} {v : Value} {ts : List Wd} (h : OwnWds w B v ts) (hb : Below w.heap.size w w') : OwnWds w' B v ts :=
  ownsRow_block h fun b e => hb.block b (h.lt b e).2
theorem OwnWds.drewN {w : World} {B : Nat} {v : Value} {ts : List Wd} (h : OwnWds w B v ts) (k : Nat) : OwnWds (w.drewN k) B v ts := h
theorem wd_len : ∀ ts : List Wd, (ts.flatMap wdCells).length = ts.length * 3 := fun ts => by induction ts with | nil => rfl | cons a r ih => simp [wdCells] at ih ⊢; omega
theorem wd_get : ∀ (ts : List Wd) j (hj : j < ts.length) i (hi : i < 3), (ts.flatMap wdCells)[j * 3 + i]? = (wdCells ts[j])[i]? := fun ts => by
  induction ts with
  | nil => intro j hj; simp at hj
  | cons a r ih =>
    intro j hj i hi
    cases j with
    | zero =>
      simp only [List.flatMap_cons, List.getElem_cons_zero, Nat.zero_mul, Nat.zero_add]
      rw [List.getElem?_append_left (by simp [wdCells]; omega)]
    | succ j =>
      have := ih j (by simpa using hj) i hi
      simp only [List.flatMap_cons, List.getElem_cons_succ]
      rw [List.getElem?_append_right (by simp [wdCells]; omega), show (j + 1) * 3 + i - (wdCells a).length = j * 3 + i by simp [wdCells]; omega]
      exact this
theorem wd_set : ∀ (ts : List Wd) (j : Nat) (hj : j < ts.length) (t : Wd) (i : Nat) (u : Value), i < 3 → (wdCells ts[j]).set i u = wdCells t → (ts.flatMap wdCells).set (j * 3 + i) u = (ts.set j t).flatMap wdCells := fun ts => by
  induction ts with
  | nil => intro j hj; simp at hj
  | cons a r ih =>
    intro j hj t i u hi h
    cases j with
    | zero =>
      simp only [List.flatMap_cons, List.getElem_cons_zero, Nat.zero_mul, Nat.zero_add, List.set_cons_zero] at h ⊢
      rw [List.set_append_left _ _ (by simp [wdCells]; omega), h]
    | succ j =>
      have := ih j (by simpa using hj) t i u hi (by simpa using h)
      simp only [List.flatMap_cons, List.set_cons_succ]
      rw [List.set_append_right _ _ (by simp [wdCells]; omega), show (j + 1) * 3 + i - (wdCells a).length = j * 3 + i by simp [wdCells]; omega, this]
/-- Where a row of words lies. -/
theorem OwnWds.at_ {w : World} {B : Nat} {v : Value} {ts : List Wd} (h : OwnWds w B v ts) {k : Nat} (hk : k < ts.length) : ∃ g c, v = .slice (some ⟨g, 0, none⟩) ts.length c ∧ B ≤ g ∧ g < w.heap.size ∧
    w.cell? ⟨g, k * 3, none⟩ = some (.string (ba ts[k].1)) ∧ w.cell? ⟨g, k * 3 + 1, none⟩ = some (.int .i64 ts[k].2.1) ∧ w.cell? ⟨g, k * 3 + 2, none⟩ = some (.int .i64 ts[k].2.2) ∧
    w.frozen? ⟨g, k * 3, none⟩ = false ∧ w.frozen? ⟨g, k * 3 + 2, none⟩ = false := by
  have h0 : w.ownsRow B 69 3 v ts.length (ts.flatMap wdCells) := h
  rcases h0.2 with ⟨rfl, hn⟩ | ⟨g, cap, cur, rfl, hb, hg, q1, q2, q3, q4⟩
  · omega
  · have hc : ∀ i u, i < 3 → (wdCells ts[k])[i]? = some u → w.cell? ⟨g, k * 3 + i, none⟩ = some u := fun i u hi hu => by
      have := h0.cells (g := g) rfl (k * 3 + i) u (by rw [wd_get ts k hk i hi]; exact hu)
      unfold Addr.add at this
      by_cases e0 : k * 3 + i = 0
      · rw [if_pos e0] at this; rw [e0]; exact this
      · rw [if_neg e0] at this; rw [Nat.zero_add] at this; exact this
    have hf : ∀ o, w.frozen? ⟨g, o, none⟩ = false := fun o => by simp [World.frozen?, hg]
    exact ⟨g, cap, rfl, hb, heap_lt hg, hc 0 _ (by omega) rfl, hc 1 _ (by omega) rfl, hc 2 _ (by omega) rfl, hf _, hf _⟩
/-- One cell of the row set. -/
theorem OwnWds.set {w : World} {B g c n : Nat} {ts : List Wd} (h : OwnWds w B (.slice (some ⟨g, 0, none⟩) n c) ts) {k i : Nat} (hk : k < ts.length) (hi : i < 3) {u : Value} {t : Wd} (ht : (wdCells ts[k]).set i u = wdCells t) : OwnWds (w.setCell ⟨g, k * 3 + i, none⟩ u) B (.slice (some ⟨g, 0, none⟩) n c) (ts.set k t) := by
  have h0 : w.ownsRow B 69 3 (.slice (some ⟨g, 0, none⟩) n c) ts.length (ts.flatMap wdCells) := h
  have hn : n = ts.length := by
    rcases h0.2 with ⟨e1, _⟩ | ⟨g', cap', cur, e1, _⟩
    · cases e1
    · injection e1
  subst hn
  have := ownsRow_set h0 (i := k * 3 + i) (by rw [wd_len]; omega) u
  rw [wd_set ts k hk t i u hi ht] at this
  show World.ownsRow _ _ _ _ _ (ts.set k t).length _
  rw [List.length_set]
  exact this
theorem OwnWds.words {w : World} {B : Nat} {v : Value} {ts : List Wd} {l : List UInt8} {ws : List (Nat × Nat)} (h : OwnWds w B v ts) (he : ts = ws.map fun r => (wordAt l r, r)) : OwnWords w B v l ws := by
  subst he
  have h0 : w.ownsRow B 69 3 v (ws.map fun r => (wordAt l r, r)).length ((ws.map fun r => (wordAt l r, r)).flatMap wdCells) := h
  rw [List.length_map, List.flatMap_map] at h0
  exact h0
/-- append of one word without a text. -/
theorem wpList_pushWd {ops : Array Oper} {rest : List Oper} {o : Oper} {a : Act} {W : World} {Q : Exit → Act → World → Prop} {B : Nat} {v : Value} {ts : List Wd} {t : Wd} (hT : OwnWds W B v ts) {b0 : ByteArray} {z1 z2 : Int} (hb0 : ba t.1 = b0) (hz1' : (t.2.1 : Int) = z1) (hz2' : (t.2.2 : Int) = z2) (hB : B ≤ W.heap.size)
    (hlen : ts.length ≤ 1000000000) (hgd : o.guard = none) (s y : Operand) (c : Nat)
    (ho : o.op = .call { callee := .builtin .append, args := #[s, y], argTypes := #[66, 66] }) (hs : a.eval s = v) (hx : a.eval y = .slice (some ⟨W.heap.size, 0, none⟩) 1 c)
    (h : ∀ v' w', OwnWds w' B v' (ts ++ [t]) → W.grownBy w' v.ownBlock → wpList Tryz.prog ops Q rest (a.put o.dst v') w') :
    wpList Tryz.prog ops Q (o :: rest) a (W.alloc (.cells #[.string b0, .int .i64 z1, .int .i64 z2] 69)) := by
  subst hb0; subst hz1'; subst hz2'
  obtain ⟨i0, hi, hz0, hz1, hz2⟩ := info_parts word_info
  refine wpList_append_own_at _ hgd s y 66 ho B 69 i0 _ 3 32 Tryz.underlying66 hi hz0 hz1 hz2 rfl (by omega) v ts.length (ts.flatMap wdCells) hs (World.ownsRow.alloc hT _) ⟨W.heap.size, 0, none⟩ 1 c (wdCells t) hx rfl (World.news_of_block (MapKept.heap_alloc W _).1) ?_ (by simp only [maxLen]; omega) (by omega) (by simp; omega) ?_
  · intro u hu
    simp only [wdCells, List.mem_cons, List.not_mem_nil, or_false] at hu
    rcases hu with rfl | rfl | rfl <;> rfl
  · intro v' w' h1 h2 _ h4
    have h5 := World.grownBy_alloc W (.cells #[.string (ba t.1), .int .i64 t.2.1, .int .i64 t.2.2] 69) v.ownBlock
    have hg : W.grownBy w' v.ownBlock := ⟨h2.os.trans h5.os, h2.tape.trans h5.tape, h2.output.trans h5.output, Nat.le_trans h5.size h2.size, fun k hk hne => (h2.block k (by simp; omega) hne).trans (h5.block k hk hne)⟩
    refine h v' w' ?_ hg
    show w'.ownsRow B _ 3 v' _ _
    simpa using h1

/-- The class of a unit. -/
def uK (u : List UInt8) : Int := if u.length = 1 ∧ 128 ≤ bt u 0 then 0 else kindP (rv u)
theorem uK_take {l : List UInt8} (h : l ≠ []) : uK (l.take (uN l).2) = wKind l := by
  have hp := uN_pos l h
  have h2 := uN_cases l h
  unfold wKind
  obtain ⟨⟨r, n⟩, hq⟩ : ∃ q, uN l = q := ⟨_, rfl⟩
  rw [hq] at hp h2
  rw [hq]
  dsimp only at hp h2 ⊢
  have hl : (l.take n).length = n := by rw [List.length_take]; omega
  have hb0 : bt (l.take n) 0 = bt l 0 := bt_take (by omega)
  have h65 : kindP (65533 : Nat) = 0 := by decide
  have key : rv (l.take n) = r → ¬ (n = 1 ∧ 128 ≤ bt l 0) → uK (l.take n) = if r = 65533 then 0 else kindP r := by
    intro hv hn
    unfold uK
    rw [hl, hb0, if_neg hn, hv]
    split
    · rename_i h; rw [h]; exact h65
    · rfl
  rcases h2 with ⟨h1, h2⟩ | ⟨h1, h2⟩ | ⟨h1, h2⟩ | ⟨h1, h2⟩
  · rcases h2 with ⟨h2, h3⟩ | ⟨h2, h3⟩
    · refine key ?_ (by omega)
      unfold rv
      rw [hl, if_pos h1, hb0, h3]
    · unfold uK
      rw [hl, hb0, if_pos ⟨h1, h2⟩, if_pos h3]
  · refine key ?_ (by omega)
    subst h1
    unfold rv
    rw [hl, if_neg (by omega)]
    show bt (l.take 2) 0 % mo (l.take 2).length * 64 + bt (l.take 2) 1 % 64 = _
    rw [hl, hb0, bt_take (by omega)]
    show bt l 0 % 32 * 64 + bt l 1 % 64 = r
    omega
  · refine key ?_ (by omega)
    subst h1
    unfold rv
    rw [hl, if_neg (by omega)]
    show (bt (l.take 3) 0 % mo (l.take 3).length * 64 + bt (l.take 3) 1 % 64) * 64 + bt (l.take 3) 2 % 64 = _
    rw [hl, hb0, bt_take (by omega), bt_take (by omega)]
    show (bt l 0 % 16 * 64 + bt l 1 % 64) * 64 + bt l 2 % 64 = r
    omega
  · refine key ?_ (by omega)
    subst h1
    unfold rv
    rw [hl, if_neg (by omega)]
    show ((bt (l.take 4) 0 % mo (l.take 4).length * 64 + bt (l.take 4) 1 % 64) * 64 + bt (l.take 4) 2 % 64) * 64 + bt (l.take 4) 3 % 64 = _
    rw [hl, hb0, bt_take (by omega), bt_take (by omega), bt_take (by omega)]
    show ((bt l 0 % 8 * 64 + bt l 1 % 64) * 64 + bt l 2 % 64) * 64 + bt l 3 % 64 = r
    omega
set_option maxRecDepth 100000 in
theorem runit_any (u : List UInt8) (w : World) (h1 : 1 ≤ u.length) (h4 : u.length ≤ 4) : Calls Tryz.prog 147 #[.string (ba u)] w fun e w' => e = .returned (.int .i64 (uK u)) ∧ w' = w := by
  have HR := Lib.hid (rrune_any u w h1 h4)
  have HK := Lib.hid (show uK u = if u.length = 1 ∧ 128 ≤ bt u 0 then 0 else kindP (rv u) from rfl)
  obtain ⟨s, hs⟩ : ∃ s, ba u = s := ⟨_, rfl⟩
  have hss : s.size = u.length := by rw [← hs, ba_size]
  have HG := Lib.hid (show ∀ j (hj : j < s.size), (s[j]'hj).toNat = bt u j from fun j hj => by subst hs; exact byte_at u j hj)
  rw [hs] at HR
  rw [hs]
  obtain ⟨n, hn⟩ : ∃ n, u.length = n := ⟨_, rfl⟩
  rw [hn] at HK hss h1 h4
  clear hs hn
  have hp : 0 < s.size := by omega
  by_cases hc : n = 1
  · subst hc
    have hz : (s.size : Int) = 1 := by omega
    by_cases hb : 128 ≤ s[0].toNat
    · have hb2 : (128 : Int) ≤ (s[0].toNat : Int) := by omega
      have HF := Lib.hid (show uK u = 0 by rw [HK.out, if_pos ⟨rfl, by rw [← HG.out 0 hp]; exact hb⟩])
      clear h1 h4
      go_enter Tryz.func147, Tryz.ntmps147
      go_wp2
      go_ret
      exact ⟨by rw [HF.out]; rfl, rfl⟩
    · have hb2 : ¬ (128 : Int) ≤ (s[0].toNat : Int) := by omega
      have HF := Lib.hid (show uK u = kindP (rv u) by rw [HK.out, if_neg (by rw [← HG.out 0 hp]; omega)])
      clear h1 h4
      go_enter Tryz.func147, Tryz.ntmps147
      go_wp2_with fail
      refine HR.out.mono ?_
      rintro e w' ⟨rfl, rfl⟩
      go_wp2_with fail
      refine (rkind_any _ _).mono ?_
      rintro e w' ⟨rfl, rfl⟩
      go_wp2
      go_ret
      exact ⟨by rw [HF.out]; rfl, rfl⟩
  · have hz : ¬ (s.size : Int) = 1 := by omega
    have hz2 : ((s.size : Int) == 1) = false := by simpa using hz
    have HF := Lib.hid (show uK u = kindP (rv u) by rw [HK.out, if_neg (by omega)])
    clear h1 h4
    go_enter Tryz.func147, Tryz.ntmps147
    go_wp2_with fail
    refine HR.out.mono ?_
    rintro e w' ⟨rfl, rfl⟩
    go_wp2_with fail
    refine (rkind_any _ _).mono ?_
    rintro e w' ⟨rfl, rfl⟩
    go_wp2
    go_ret
    exact ⟨by rw [HF.out]; rfl, rfl⟩
end Go.Proofs.YtomcdhmcjndioaaGreatDoor
end
section
namespace Go.Proofs.YtomcdhmcjndioaaGreatDoor
open Go.RowKit
set_option linter.unusedVariables false

theorem rRun_nil (k a : Nat) (out : List (Nat × Nat)) (opn : Bool) : rRun k [] a out opn = out := by
  cases k with
  | zero => rfl
  | succ k => unfold rRun; rw [if_pos rfl]
theorem rRun_cons {k : Nat} {l : List UInt8} (h : l ≠ []) (hk : l.length ≤ k) (a : Nat) (out : List (Nat × Nat)) (opn : Bool) :
    rRun k l a out opn = rRun (k - 1) (l.drop (uN l).2) (a + (uN l).2) (rStep l a out opn).1 (rStep l a out opn).2 ∧ (l.drop (uN l).2).length ≤ k - 1 := by
  have hp := uN_pos l h
  cases k with
  | zero => exact absurd (List.eq_nil_of_length_eq_zero (by omega)) h
  | succ k =>
    refine ⟨?_, by rw [List.length_drop]; omega⟩
    conv => lhs; unfold rRun
    rw [if_neg h]; rfl
/-- The state at the first loop's head: k units are read, pos bytes of them. -/
structure RWSt (l : List UInt8) (us : List (List UInt8)) (k pos : Nat) (opn : Bool) (ts : List Wd) : Prop where
  rest : us.drop k = unitsP (l.drop pos)
  run : ∃ f, (l.drop pos).length ≤ f ∧ rRun f (l.drop pos) pos (ts.map (·.2)) opn = rangesP l
  bare : ∀ t, t ∈ ts → t.1 = [] ∧ t.2.1 ≤ t.2.2 ∧ t.2.2 ≤ pos
  few : ts.length ≤ k
  some_ : opn = true → ts ≠ []
  posle : pos ≤ l.length
/-- What a unit of the class kd, n bytes long, makes of the words. -/
def wdStep (kd : Int) (n pos : Nat) (opn : Bool) (ts : List Wd) : List Wd :=
  if kd = 1 ∧ opn = true ∧ (ts.getLastD ([], 0, 0)).2.2 - (ts.getLastD ([], 0, 0)).2.1 + n ≤ 40 then ts.set (ts.length - 1) ((ts.getLastD ([], 0, 0)).1, (ts.getLastD ([], 0, 0)).2.1, (ts.getLastD ([], 0, 0)).2.2 + n)
  else if 0 < kd then ts ++ [([], pos, pos + n)] else ts
theorem set_last {α : Type} (l : List α) (a : α) (h : l ≠ []) : l.set (l.length - 1) a = l.dropLast ++ [a] := by
  have e := List.dropLast_concat_getLast h
  conv => lhs; rw [← e]
  rw [List.length_append, List.length_singleton, Nat.add_sub_cancel, List.set_append_right _ _ (Nat.le_refl _), Nat.sub_self]; rfl
theorem getLastD_map {α β : Type} (f : α → β) (l : List α) (d : α) : (l.map f).getLastD (f d) = f (l.getLastD d) := by
  rw [List.getLastD_eq_getLast?, List.getLastD_eq_getLast?, List.getLast?_map]
  cases l.getLast? <;> rfl
theorem RWSt.step {l : List UInt8} {us : List (List UInt8)} {k pos : Nat} {opn : Bool} {ts : List Wd} (h : RWSt l us k pos opn ts) (hk : k < us.length) :
    ∃ n : Nat, us[k] = (l.drop pos).take n ∧ 1 ≤ n ∧ n ≤ 4 ∧ us[k].length = n ∧ pos + n ≤ l.length ∧ RWSt l us (k + 1) (pos + n) (decide (uK us[k] = 1)) (wdStep (uK us[k]) n pos opn ts) := by
  have hne : l.drop pos ≠ [] := by
    intro e
    have := h.rest
    rw [e, unitsP_nil] at this
    have := congrArg List.length this
    rw [List.length_drop] at this
    simp at this; omega
  have hp := uN_pos _ hne
  rw [List.length_drop] at hp
  have hr := h.rest
  rw [unitsP_cons hne, List.drop_eq_getElem_cons hk] at hr
  injection hr with hr1 hr2
  rw [List.drop_drop] at hr2
  have huk := uK_take hne
  rw [← hr1] at huk
  have hlen : us[k].length = (uN (l.drop pos)).2 := by rw [hr1, List.length_take, List.length_drop]; omega
  refine ⟨(uN (l.drop pos)).2, hr1, hp.1, hp.2.2.1, hlen, by omega, ?_⟩
  obtain ⟨f, hf, hrun⟩ := h.run
  obtain ⟨h1, h2⟩ := rRun_cons hne hf pos (ts.map (·.2)) opn
  rw [h1, List.drop_drop] at hrun
  rw [List.drop_drop] at h2
  have hst : (rStep (l.drop pos) pos (ts.map (·.2)) opn).1 = (wdStep (uK us[k]) (uN (l.drop pos)).2 pos opn ts).map (·.2) ∧ (rStep (l.drop pos) pos (ts.map (·.2)) opn).2 = decide (uK us[k] = 1) := by
    rw [huk]
    refine ⟨?_, rfl⟩
    have hl : (ts.map (·.2)).getLastD (0, 0) = (ts.getLastD ([], 0, 0)).2 := getLastD_map (fun t : Wd => t.2) ts ([], 0, 0)
    unfold rStep wdStep
    rw [hl]
    dsimp only
    split
    · rename_i hc
      rw [set_last ts _ (h.some_ hc.2.1), List.map_append, List.map_dropLast]
      rfl
    · split
      · rw [List.map_append]; rfl
      · rfl
  rw [hst.1, hst.2] at hrun
  have hlast : ts ≠ [] → ts.getLastD ([], 0, 0) ∈ ts := fun hn => by
    rw [List.getLastD_eq_getLast?, List.getLast?_eq_some_getLast hn]
    exact List.getLast_mem hn
  refine ⟨hr2, ⟨f - 1, h2, hrun⟩, ?_, ?_, ?_, by omega⟩
  · intro t ht
    unfold wdStep at ht
    split at ht
    · rename_i hc
      have hb := h.bare _ (hlast (h.some_ hc.2.1))
      rcases List.mem_or_eq_of_mem_set ht with ht | ht
      · have := h.bare t ht; exact ⟨this.1, this.2.1, by omega⟩
      · subst ht; exact ⟨hb.1, Nat.le_trans hb.2.1 (Nat.le_add_right _ _), Nat.add_le_add_right hb.2.2 _⟩
    · split at ht
      · rcases List.mem_append.1 ht with ht | ht
        · have := h.bare t ht; exact ⟨this.1, this.2.1, by omega⟩
        · rw [List.mem_singleton] at ht; subst ht; exact ⟨rfl, by show pos ≤ pos + _; omega, Nat.le_refl _⟩
      · have := h.bare t ht; exact ⟨this.1, this.2.1, by omega⟩
  · have := h.few
    unfold wdStep
    split
    · rw [List.length_set]; omega
    · split
      · rw [List.length_append, List.length_singleton]; omega
      · omega
  · intro ho
    have ho : uK us[k] = 1 := of_decide_eq_true ho
    unfold wdStep
    split
    · rename_i hc
      intro e
      have := congrArg List.length e
      rw [List.length_set] at this
      exact h.some_ hc.2.1 (List.eq_nil_of_length_eq_zero (by simpa using this))
    · rw [if_pos (by omega)]; simp
theorem RWSt.done {l : List UInt8} {us : List (List UInt8)} {k pos : Nat} {opn : Bool} {ts : List Wd} (h : RWSt l us k pos opn ts) (hk : us.length ≤ k) : ts.map (·.2) = rangesP l := by
  have h1 := h.rest
  rw [List.drop_of_length_le hk] at h1
  have h2 : l.drop pos = [] := by
    by_cases e : l.drop pos = []
    · exact e
    · rw [unitsP_cons e] at h1; cases h1
  obtain ⟨f, _, hr⟩ := h.run
  rw [h2, rRun_nil] at hr
  exact hr
theorem RWSt.start (l : List UInt8) : RWSt l (unitsP l) 0 0 false [] :=
  ⟨rfl, ⟨l.length, Nat.le_refl _, runs_meet l.length l 0 (-1) [] [] false (Nat.le_refl _) (.inr ⟨rfl, rfl, rfl⟩)⟩, (fun t ht => by cases ht), Nat.le_refl _, (fun e => by cases e), Nat.zero_le _⟩
end Go.Proofs.YtomcdhmcjndioaaGreatDoor
end
section
namespace Go.Proofs.YtomcdhmcjndioaaGreatDoor
open Go.RowKit
set_option linter.unusedVariables false

set_option maxRecDepth 100000 in
set_option maxHeartbeats 40000000 in
theorem rlowerR_A (y : Int) (w : World) (h0 : 0 ≤ y) (h1 : y ≤ 312) : Calls Tryz.prog 167 #[.int .i64 y] w fun e w' => e = .returned (.int .i64 (rlower y)) ∧ w' = w := by
  rcases (by omega : (0 ≤ y ∧ y ≤ 64) ∨ (65 ≤ y ∧ y ≤ 90) ∨ (91 ≤ y ∧ y ≤ 191) ∨ (192 ≤ y ∧ y ≤ 214) ∨ (215 ≤ y ∧ y ≤ 215) ∨ (216 ≤ y ∧ y ≤ 222) ∨ (223 ≤ y ∧ y ≤ 255) ∨ (256 ≤ y ∧ y ≤ 303) ∨ (304 ≤ y ∧ y ≤ 305) ∨ (306 ≤ y ∧ y ≤ 311) ∨ (312 ≤ y ∧ y ≤ 312)) with ⟨l, u⟩ | ⟨l, u⟩ | ⟨l, u⟩ | ⟨l, u⟩ | ⟨l, u⟩ | ⟨l, u⟩ | ⟨l, u⟩ | ⟨l, u⟩ | ⟨l, u⟩ | ⟨l, u⟩ | ⟨l, u⟩
  · clear h0 h1
    rcases (by omega : y % 2 = 0 ∨ y % 2 = 1) with hpar | hpar
    · have e1 : (y == 910) = false := by simp; omega
      have e2 : (y == 911) = false := by simp; omega
      have HR := Lib.hid (show rlower y = y by unfold rlower; repeat' split; all_goals omega)
      go_enter Tryz.func167, Tryz.ntmps167
      go_wp2
      go_ret
      exact ⟨by rw [HR.out]; rfl, rfl⟩
    · have e1 : (y == 910) = false := by simp; omega
      have e2 : (y == 911) = false := by simp; omega
      have HR := Lib.hid (show rlower y = y by unfold rlower; repeat' split; all_goals omega)
      go_enter Tryz.func167, Tryz.ntmps167
      go_wp2
      go_ret
      exact ⟨by rw [HR.out]; rfl, rfl⟩
  · clear h0 h1
    rcases (by omega : y % 2 = 0 ∨ y % 2 = 1) with hpar | hpar
    · have e1 : (y == 910) = false := by simp; omega
      have e2 : (y == 911) = false := by simp; omega
      have HR := Lib.hid (show rlower y = y + 32 by unfold rlower; repeat' split; all_goals omega)
      go_enter Tryz.func167, Tryz.ntmps167
      go_wp2
      go_ret
      exact ⟨by rw [HR.out]; rfl, rfl⟩
    · have e1 : (y == 910) = false := by simp; omega
      have e2 : (y == 911) = false := by simp; omega
      have HR := Lib.hid (show rlower y = y + 32 by unfold rlower; repeat' split; all_goals omega)
      go_enter Tryz.func167, Tryz.ntmps167
      go_wp2
      go_ret
      exact ⟨by rw [HR.out]; rfl, rfl⟩
  · clear h0 h1
    rcases (by omega : y % 2 = 0 ∨ y % 2 = 1) with hpar | hpar
    · have e1 : (y == 910) = false := by simp; omega
      have e2 : (y == 911) = false := by simp; omega
      have HR := Lib.hid (show rlower y = y by unfold rlower; repeat' split; all_goals omega)
      go_enter Tryz.func167, Tryz.ntmps167
      go_wp2
      go_ret
      exact ⟨by rw [HR.out]; rfl, rfl⟩
    · have e1 : (y == 910) = false := by simp; omega
      have e2 : (y == 911) = false := by simp; omega
      have HR := Lib.hid (show rlower y = y by unfold rlower; repeat' split; all_goals omega)
      go_enter Tryz.func167, Tryz.ntmps167
      go_wp2
      go_ret
      exact ⟨by rw [HR.out]; rfl, rfl⟩
  · clear h0 h1
    rcases (by omega : y % 2 = 0 ∨ y % 2 = 1) with hpar | hpar
    · have e1 : (y == 910) = false := by simp; omega
      have e2 : (y == 911) = false := by simp; omega
      have HR := Lib.hid (show rlower y = y + 32 by unfold rlower; repeat' split; all_goals omega)
      go_enter Tryz.func167, Tryz.ntmps167
      go_wp2
      go_ret
      exact ⟨by rw [HR.out]; rfl, rfl⟩
    · have e1 : (y == 910) = false := by simp; omega
      have e2 : (y == 911) = false := by simp; omega
      have HR := Lib.hid (show rlower y = y + 32 by unfold rlower; repeat' split; all_goals omega)
      go_enter Tryz.func167, Tryz.ntmps167
      go_wp2
      go_ret
      exact ⟨by rw [HR.out]; rfl, rfl⟩
  · clear h0 h1
    rcases (by omega : y % 2 = 0 ∨ y % 2 = 1) with hpar | hpar
    · exfalso; omega
    · have e1 : (y == 910) = false := by simp; omega
      have e2 : (y == 911) = false := by simp; omega
      have HR := Lib.hid (show rlower y = y by unfold rlower; repeat' split; all_goals omega)
      go_enter Tryz.func167, Tryz.ntmps167
      go_wp2
      go_ret
      exact ⟨by rw [HR.out]; rfl, rfl⟩
  · clear h0 h1
    rcases (by omega : y % 2 = 0 ∨ y % 2 = 1) with hpar | hpar
    · have e1 : (y == 910) = false := by simp; omega
      have e2 : (y == 911) = false := by simp; omega
      have HR := Lib.hid (show rlower y = y + 32 by unfold rlower; repeat' split; all_goals omega)
      go_enter Tryz.func167, Tryz.ntmps167
      go_wp2
      go_ret
      exact ⟨by rw [HR.out]; rfl, rfl⟩
    · have e1 : (y == 910) = false := by simp; omega
      have e2 : (y == 911) = false := by simp; omega
      have HR := Lib.hid (show rlower y = y + 32 by unfold rlower; repeat' split; all_goals omega)
      go_enter Tryz.func167, Tryz.ntmps167
      go_wp2
      go_ret
      exact ⟨by rw [HR.out]; rfl, rfl⟩
  · clear h0 h1
    rcases (by omega : y % 2 = 0 ∨ y % 2 = 1) with hpar | hpar
    · have e1 : (y == 910) = false := by simp; omega
      have e2 : (y == 911) = false := by simp; omega
      have HR := Lib.hid (show rlower y = y by unfold rlower; repeat' split; all_goals omega)
      go_enter Tryz.func167, Tryz.ntmps167
      go_wp2
      go_ret
      exact ⟨by rw [HR.out]; rfl, rfl⟩
    · have e1 : (y == 910) = false := by simp; omega
      have e2 : (y == 911) = false := by simp; omega
      have HR := Lib.hid (show rlower y = y by unfold rlower; repeat' split; all_goals omega)
      go_enter Tryz.func167, Tryz.ntmps167
      go_wp2
      go_ret
      exact ⟨by rw [HR.out]; rfl, rfl⟩
  · clear h0 h1
    rcases (by omega : y % 2 = 0 ∨ y % 2 = 1) with hpar | hpar
    · have e1 : (y == 910) = false := by simp; omega
      have e2 : (y == 911) = false := by simp; omega
      have HR := Lib.hid (show rlower y = y + 1 by unfold rlower; repeat' split; all_goals omega)
      go_enter Tryz.func167, Tryz.ntmps167
      go_wp2
      go_ret
      exact ⟨by rw [HR.out]; rfl, rfl⟩
    · have e1 : (y == 910) = false := by simp; omega
      have e2 : (y == 911) = false := by simp; omega
      have HR := Lib.hid (show rlower y = y by unfold rlower; repeat' split; all_goals omega)
      go_enter Tryz.func167, Tryz.ntmps167
      go_wp2
      go_ret
      exact ⟨by rw [HR.out]; rfl, rfl⟩
  · clear h0 h1
    rcases (by omega : y % 2 = 0 ∨ y % 2 = 1) with hpar | hpar
    · have e1 : (y == 910) = false := by simp; omega
      have e2 : (y == 911) = false := by simp; omega
      have HR := Lib.hid (show rlower y = y by unfold rlower; repeat' split; all_goals omega)
      go_enter Tryz.func167, Tryz.ntmps167
      go_wp2
      go_ret
      exact ⟨by rw [HR.out]; rfl, rfl⟩
    · have e1 : (y == 910) = false := by simp; omega
      have e2 : (y == 911) = false := by simp; omega
      have HR := Lib.hid (show rlower y = y by unfold rlower; repeat' split; all_goals omega)
      go_enter Tryz.func167, Tryz.ntmps167
      go_wp2
      go_ret
      exact ⟨by rw [HR.out]; rfl, rfl⟩
  · clear h0 h1
    rcases (by omega : y % 2 = 0 ∨ y % 2 = 1) with hpar | hpar
    · have e1 : (y == 910) = false := by simp; omega
      have e2 : (y == 911) = false := by simp; omega
      have HR := Lib.hid (show rlower y = y + 1 by unfold rlower; repeat' split; all_goals omega)
      go_enter Tryz.func167, Tryz.ntmps167
      go_wp2
      go_ret
      exact ⟨by rw [HR.out]; rfl, rfl⟩
    · have e1 : (y == 910) = false := by simp; omega
      have e2 : (y == 911) = false := by simp; omega
      have HR := Lib.hid (show rlower y = y by unfold rlower; repeat' split; all_goals omega)
      go_enter Tryz.func167, Tryz.ntmps167
      go_wp2
      go_ret
      exact ⟨by rw [HR.out]; rfl, rfl⟩
  · clear h0 h1
    rcases (by omega : y % 2 = 0 ∨ y % 2 = 1) with hpar | hpar
    · have e1 : (y == 910) = false := by simp; omega
      have e2 : (y == 911) = false := by simp; omega
      have HR := Lib.hid (show rlower y = y by unfold rlower; repeat' split; all_goals omega)
      go_enter Tryz.func167, Tryz.ntmps167
      go_wp2
      go_ret
      exact ⟨by rw [HR.out]; rfl, rfl⟩
    · exfalso; omega
end Go.Proofs.YtomcdhmcjndioaaGreatDoor
end
section
namespace Go.Proofs.YtomcdhmcjndioaaGreatDoor
open Go.RowKit
set_option linter.unusedVariables false

set_option maxRecDepth 100000 in
set_option maxHeartbeats 40000000 in
theorem rlowerR_B (y : Int) (w : World) (h0 : 313 ≤ y) (h1 : y ≤ 908) : Calls Tryz.prog 167 #[.int .i64 y] w fun e w' => e = .returned (.int .i64 (rlower y)) ∧ w' = w := by
  rcases (by omega : (313 ≤ y ∧ y ≤ 328) ∨ (329 ≤ y ∧ y ≤ 329) ∨ (330 ≤ y ∧ y ≤ 375) ∨ (376 ≤ y ∧ y ≤ 376) ∨ (377 ≤ y ∧ y ≤ 382) ∨ (383 ≤ y ∧ y ≤ 901) ∨ (902 ≤ y ∧ y ≤ 902) ∨ (903 ≤ y ∧ y ≤ 903) ∨ (904 ≤ y ∧ y ≤ 906) ∨ (907 ≤ y ∧ y ≤ 907) ∨ (908 ≤ y ∧ y ≤ 908)) with ⟨l, u⟩ | ⟨l, u⟩ | ⟨l, u⟩ | ⟨l, u⟩ | ⟨l, u⟩ | ⟨l, u⟩ | ⟨l, u⟩ | ⟨l, u⟩ | ⟨l, u⟩ | ⟨l, u⟩ | ⟨l, u⟩
  · clear h0 h1
    rcases (by omega : y % 2 = 0 ∨ y % 2 = 1) with hpar | hpar
    · have e1 : (y == 910) = false := by simp; omega
      have e2 : (y == 911) = false := by simp; omega
      have HR := Lib.hid (show rlower y = y by unfold rlower; repeat' split; all_goals omega)
      go_enter Tryz.func167, Tryz.ntmps167
      go_wp2
      go_ret
      exact ⟨by rw [HR.out]; rfl, rfl⟩
    · have e1 : (y == 910) = false := by simp; omega
      have e2 : (y == 911) = false := by simp; omega
      have HR := Lib.hid (show rlower y = y + 1 by unfold rlower; repeat' split; all_goals omega)
      go_enter Tryz.func167, Tryz.ntmps167
      go_wp2
      go_ret
      exact ⟨by rw [HR.out]; rfl, rfl⟩
  · clear h0 h1
    rcases (by omega : y % 2 = 0 ∨ y % 2 = 1) with hpar | hpar
    · exfalso; omega
    · have e1 : (y == 910) = false := by simp; omega
      have e2 : (y == 911) = false := by simp; omega
      have HR := Lib.hid (show rlower y = y by unfold rlower; repeat' split; all_goals omega)
      go_enter Tryz.func167, Tryz.ntmps167
      go_wp2
      go_ret
      exact ⟨by rw [HR.out]; rfl, rfl⟩
  · clear h0 h1
    rcases (by omega : y % 2 = 0 ∨ y % 2 = 1) with hpar | hpar
    · have e1 : (y == 910) = false := by simp; omega
      have e2 : (y == 911) = false := by simp; omega
      have HR := Lib.hid (show rlower y = y + 1 by unfold rlower; repeat' split; all_goals omega)
      go_enter Tryz.func167, Tryz.ntmps167
      go_wp2
      go_ret
      exact ⟨by rw [HR.out]; rfl, rfl⟩
    · have e1 : (y == 910) = false := by simp; omega
      have e2 : (y == 911) = false := by simp; omega
      have HR := Lib.hid (show rlower y = y by unfold rlower; repeat' split; all_goals omega)
      go_enter Tryz.func167, Tryz.ntmps167
      go_wp2
      go_ret
      exact ⟨by rw [HR.out]; rfl, rfl⟩
  · clear h0 h1
    rcases (by omega : y % 2 = 0 ∨ y % 2 = 1) with hpar | hpar
    · have e1 : (y == 910) = false := by simp; omega
      have e2 : (y == 911) = false := by simp; omega
      have HR := Lib.hid (show rlower y = 255 by unfold rlower; repeat' split; all_goals omega)
      go_enter Tryz.func167, Tryz.ntmps167
      go_wp2
      go_ret
      exact ⟨by rw [HR.out]; rfl, rfl⟩
    · exfalso; omega
  · clear h0 h1
    rcases (by omega : y % 2 = 0 ∨ y % 2 = 1) with hpar | hpar
    · have e1 : (y == 910) = false := by simp; omega
      have e2 : (y == 911) = false := by simp; omega
      have HR := Lib.hid (show rlower y = y by unfold rlower; repeat' split; all_goals omega)
      go_enter Tryz.func167, Tryz.ntmps167
      go_wp2
      go_ret
      exact ⟨by rw [HR.out]; rfl, rfl⟩
    · have e1 : (y == 910) = false := by simp; omega
      have e2 : (y == 911) = false := by simp; omega
      have HR := Lib.hid (show rlower y = y + 1 by unfold rlower; repeat' split; all_goals omega)
      go_enter Tryz.func167, Tryz.ntmps167
      go_wp2
      go_ret
      exact ⟨by rw [HR.out]; rfl, rfl⟩
  · clear h0 h1
    rcases (by omega : y % 2 = 0 ∨ y % 2 = 1) with hpar | hpar
    · have e1 : (y == 910) = false := by simp; omega
      have e2 : (y == 911) = false := by simp; omega
      have HR := Lib.hid (show rlower y = y by unfold rlower; repeat' split; all_goals omega)
      go_enter Tryz.func167, Tryz.ntmps167
      go_wp2
      go_ret
      exact ⟨by rw [HR.out]; rfl, rfl⟩
    · have e1 : (y == 910) = false := by simp; omega
      have e2 : (y == 911) = false := by simp; omega
      have HR := Lib.hid (show rlower y = y by unfold rlower; repeat' split; all_goals omega)
      go_enter Tryz.func167, Tryz.ntmps167
      go_wp2
      go_ret
      exact ⟨by rw [HR.out]; rfl, rfl⟩
  · clear h0 h1
    rcases (by omega : y % 2 = 0 ∨ y % 2 = 1) with hpar | hpar
    · have e1 : (y == 910) = false := by simp; omega
      have e2 : (y == 911) = false := by simp; omega
      have HR := Lib.hid (show rlower y = 940 by unfold rlower; repeat' split; all_goals omega)
      go_enter Tryz.func167, Tryz.ntmps167
      go_wp2
      go_ret
      exact ⟨by rw [HR.out]; rfl, rfl⟩
    · exfalso; omega
  · clear h0 h1
    rcases (by omega : y % 2 = 0 ∨ y % 2 = 1) with hpar | hpar
    · exfalso; omega
    · have e1 : (y == 910) = false := by simp; omega
      have e2 : (y == 911) = false := by simp; omega
      have HR := Lib.hid (show rlower y = y by unfold rlower; repeat' split; all_goals omega)
      go_enter Tryz.func167, Tryz.ntmps167
      go_wp2
      go_ret
      exact ⟨by rw [HR.out]; rfl, rfl⟩
  · clear h0 h1
    rcases (by omega : y % 2 = 0 ∨ y % 2 = 1) with hpar | hpar
    · have e1 : (y == 910) = false := by simp; omega
      have e2 : (y == 911) = false := by simp; omega
      have HR := Lib.hid (show rlower y = y + 37 by unfold rlower; repeat' split; all_goals omega)
      go_enter Tryz.func167, Tryz.ntmps167
      go_wp2
      go_ret
      exact ⟨by rw [HR.out]; rfl, rfl⟩
    · have e1 : (y == 910) = false := by simp; omega
      have e2 : (y == 911) = false := by simp; omega
      have HR := Lib.hid (show rlower y = y + 37 by unfold rlower; repeat' split; all_goals omega)
      go_enter Tryz.func167, Tryz.ntmps167
      go_wp2
      go_ret
      exact ⟨by rw [HR.out]; rfl, rfl⟩
  · clear h0 h1
    rcases (by omega : y % 2 = 0 ∨ y % 2 = 1) with hpar | hpar
    · exfalso; omega
    · have e1 : (y == 910) = false := by simp; omega
      have e2 : (y == 911) = false := by simp; omega
      have HR := Lib.hid (show rlower y = y by unfold rlower; repeat' split; all_goals omega)
      go_enter Tryz.func167, Tryz.ntmps167
      go_wp2
      go_ret
      exact ⟨by rw [HR.out]; rfl, rfl⟩
  · clear h0 h1
    rcases (by omega : y % 2 = 0 ∨ y % 2 = 1) with hpar | hpar
    · have e1 : (y == 910) = false := by simp; omega
      have e2 : (y == 911) = false := by simp; omega
      have HR := Lib.hid (show rlower y = y + 64 by unfold rlower; repeat' split; all_goals omega)
      go_enter Tryz.func167, Tryz.ntmps167
      go_wp2
      go_ret
      exact ⟨by rw [HR.out]; rfl, rfl⟩
    · exfalso; omega
end Go.Proofs.YtomcdhmcjndioaaGreatDoor
end
section
namespace Go.Proofs.YtomcdhmcjndioaaGreatDoor
open Go.RowKit
set_option linter.unusedVariables false

set_option maxRecDepth 100000 in
set_option maxHeartbeats 40000000 in
theorem rlowerR_C (y : Int) (w : World) (h0 : 909 ≤ y) (h1 : y ≤ 2047) : Calls Tryz.prog 167 #[.int .i64 y] w fun e w' => e = .returned (.int .i64 (rlower y)) ∧ w' = w := by
  rcases (by omega : (909 ≤ y ∧ y ≤ 909) ∨ (910 ≤ y ∧ y ≤ 910) ∨ (911 ≤ y ∧ y ≤ 911) ∨ (912 ≤ y ∧ y ≤ 912) ∨ (913 ≤ y ∧ y ≤ 929) ∨ (930 ≤ y ∧ y ≤ 930) ∨ (931 ≤ y ∧ y ≤ 939) ∨ (940 ≤ y ∧ y ≤ 1023) ∨ (1024 ≤ y ∧ y ≤ 1039) ∨ (1040 ≤ y ∧ y ≤ 1071) ∨ (1072 ≤ y ∧ y ≤ 2047)) with ⟨l, u⟩ | ⟨l, u⟩ | ⟨l, u⟩ | ⟨l, u⟩ | ⟨l, u⟩ | ⟨l, u⟩ | ⟨l, u⟩ | ⟨l, u⟩ | ⟨l, u⟩ | ⟨l, u⟩ | ⟨l, u⟩
  · clear h0 h1
    rcases (by omega : y % 2 = 0 ∨ y % 2 = 1) with hpar | hpar
    · exfalso; omega
    · have e1 : (y == 910) = false := by simp; omega
      have e2 : (y == 911) = false := by simp; omega
      have HR := Lib.hid (show rlower y = y by unfold rlower; repeat' split; all_goals omega)
      go_enter Tryz.func167, Tryz.ntmps167
      go_wp2
      go_ret
      exact ⟨by rw [HR.out]; rfl, rfl⟩
  · clear h0 h1
    rcases (by omega : y % 2 = 0 ∨ y % 2 = 1) with hpar | hpar
    · obtain rfl : y = 910 := by omega
      have HR := Lib.hid (show rlower 910 = 910+63 by decide)
      clear l u hpar
      go_enter Tryz.func167, Tryz.ntmps167
      go_wp2
      go_ret
      exact ⟨by rw [HR.out]; rfl, rfl⟩
    · exfalso; omega
  · clear h0 h1
    rcases (by omega : y % 2 = 0 ∨ y % 2 = 1) with hpar | hpar
    · exfalso; omega
    · obtain rfl : y = 911 := by omega
      have HR := Lib.hid (show rlower 911 = 911+63 by decide)
      clear l u hpar
      go_enter Tryz.func167, Tryz.ntmps167
      go_wp2
      go_ret
      exact ⟨by rw [HR.out]; rfl, rfl⟩
  · clear h0 h1
    rcases (by omega : y % 2 = 0 ∨ y % 2 = 1) with hpar | hpar
    · have e1 : (y == 910) = false := by simp; omega
      have e2 : (y == 911) = false := by simp; omega
      have HR := Lib.hid (show rlower y = y by unfold rlower; repeat' split; all_goals omega)
      go_enter Tryz.func167, Tryz.ntmps167
      go_wp2
      go_ret
      exact ⟨by rw [HR.out]; rfl, rfl⟩
    · exfalso; omega
  · clear h0 h1
    rcases (by omega : y % 2 = 0 ∨ y % 2 = 1) with hpar | hpar
    · have e1 : (y == 910) = false := by simp; omega
      have e2 : (y == 911) = false := by simp; omega
      have HR := Lib.hid (show rlower y = y + 32 by unfold rlower; repeat' split; all_goals omega)
      go_enter Tryz.func167, Tryz.ntmps167
      go_wp2
      go_ret
      exact ⟨by rw [HR.out]; rfl, rfl⟩
    · have e1 : (y == 910) = false := by simp; omega
      have e2 : (y == 911) = false := by simp; omega
      have HR := Lib.hid (show rlower y = y + 32 by unfold rlower; repeat' split; all_goals omega)
      go_enter Tryz.func167, Tryz.ntmps167
      go_wp2
      go_ret
      exact ⟨by rw [HR.out]; rfl, rfl⟩
  · clear h0 h1
    rcases (by omega : y % 2 = 0 ∨ y % 2 = 1) with hpar | hpar
    · have e1 : (y == 910) = false := by simp; omega
      have e2 : (y == 911) = false := by simp; omega
      have HR := Lib.hid (show rlower y = y by unfold rlower; repeat' split; all_goals omega)
      go_enter Tryz.func167, Tryz.ntmps167
      go_wp2
      go_ret
      exact ⟨by rw [HR.out]; rfl, rfl⟩
    · exfalso; omega
  · clear h0 h1
    rcases (by omega : y % 2 = 0 ∨ y % 2 = 1) with hpar | hpar
    · have e1 : (y == 910) = false := by simp; omega
      have e2 : (y == 911) = false := by simp; omega
      have HR := Lib.hid (show rlower y = y + 32 by unfold rlower; repeat' split; all_goals omega)
      go_enter Tryz.func167, Tryz.ntmps167
      go_wp2
      go_ret
      exact ⟨by rw [HR.out]; rfl, rfl⟩
    · have e1 : (y == 910) = false := by simp; omega
      have e2 : (y == 911) = false := by simp; omega
      have HR := Lib.hid (show rlower y = y + 32 by unfold rlower; repeat' split; all_goals omega)
      go_enter Tryz.func167, Tryz.ntmps167
      go_wp2
      go_ret
      exact ⟨by rw [HR.out]; rfl, rfl⟩
  · clear h0 h1
    rcases (by omega : y % 2 = 0 ∨ y % 2 = 1) with hpar | hpar
    · have e1 : (y == 910) = false := by simp; omega
      have e2 : (y == 911) = false := by simp; omega
      have HR := Lib.hid (show rlower y = y by unfold rlower; repeat' split; all_goals omega)
      go_enter Tryz.func167, Tryz.ntmps167
      go_wp2
      go_ret
      exact ⟨by rw [HR.out]; rfl, rfl⟩
    · have e1 : (y == 910) = false := by simp; omega
      have e2 : (y == 911) = false := by simp; omega
      have HR := Lib.hid (show rlower y = y by unfold rlower; repeat' split; all_goals omega)
      go_enter Tryz.func167, Tryz.ntmps167
      go_wp2
      go_ret
      exact ⟨by rw [HR.out]; rfl, rfl⟩
  · clear h0 h1
    rcases (by omega : y % 2 = 0 ∨ y % 2 = 1) with hpar | hpar
    · have e1 : (y == 910) = false := by simp; omega
      have e2 : (y == 911) = false := by simp; omega
      have HR := Lib.hid (show rlower y = y + 80 by unfold rlower; repeat' split; all_goals omega)
      go_enter Tryz.func167, Tryz.ntmps167
      go_wp2
      go_ret
      exact ⟨by rw [HR.out]; rfl, rfl⟩
    · have e1 : (y == 910) = false := by simp; omega
      have e2 : (y == 911) = false := by simp; omega
      have HR := Lib.hid (show rlower y = y + 80 by unfold rlower; repeat' split; all_goals omega)
      go_enter Tryz.func167, Tryz.ntmps167
      go_wp2
      go_ret
      exact ⟨by rw [HR.out]; rfl, rfl⟩
  · clear h0 h1
    rcases (by omega : y % 2 = 0 ∨ y % 2 = 1) with hpar | hpar
    · have e1 : (y == 910) = false := by simp; omega
      have e2 : (y == 911) = false := by simp; omega
      have HR := Lib.hid (show rlower y = y + 32 by unfold rlower; repeat' split; all_goals omega)
      go_enter Tryz.func167, Tryz.ntmps167
      go_wp2
      go_ret
      exact ⟨by rw [HR.out]; rfl, rfl⟩
    · have e1 : (y == 910) = false := by simp; omega
      have e2 : (y == 911) = false := by simp; omega
      have HR := Lib.hid (show rlower y = y + 32 by unfold rlower; repeat' split; all_goals omega)
      go_enter Tryz.func167, Tryz.ntmps167
      go_wp2
      go_ret
      exact ⟨by rw [HR.out]; rfl, rfl⟩
  · clear h0 h1
    rcases (by omega : y % 2 = 0 ∨ y % 2 = 1) with hpar | hpar
    · have e1 : (y == 910) = false := by simp; omega
      have e2 : (y == 911) = false := by simp; omega
      have HR := Lib.hid (show rlower y = y by unfold rlower; repeat' split; all_goals omega)
      go_enter Tryz.func167, Tryz.ntmps167
      go_wp2
      go_ret
      exact ⟨by rw [HR.out]; rfl, rfl⟩
    · have e1 : (y == 910) = false := by simp; omega
      have e2 : (y == 911) = false := by simp; omega
      have HR := Lib.hid (show rlower y = y by unfold rlower; repeat' split; all_goals omega)
      go_enter Tryz.func167, Tryz.ntmps167
      go_wp2
      go_ret
      exact ⟨by rw [HR.out]; rfl, rfl⟩
end Go.Proofs.YtomcdhmcjndioaaGreatDoor
end
section
namespace Go.Proofs.YtomcdhmcjndioaaGreatDoor
open Go.RowKit
theorem rlowerR_any (y : Int) (w : World) (h0 : 0 ≤ y) (h1 : y < 2048) : Calls Tryz.prog 167 #[.int .i64 y] w fun e w' => e = .returned (.int .i64 (rlower y)) ∧ w' = w := by
  by_cases h2 : y ≤ 312
  · exact rlowerR_A y w h0 h2
  · by_cases h3 : y ≤ 908
    · exact rlowerR_B y w (by omega) h3
    · exact rlowerR_C y w (by omega) (by omega)
end Go.Proofs.YtomcdhmcjndioaaGreatDoor
end
