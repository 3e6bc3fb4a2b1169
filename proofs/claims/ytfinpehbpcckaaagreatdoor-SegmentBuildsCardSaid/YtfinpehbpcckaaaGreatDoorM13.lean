/- Layer 32, plain: the state of the reference's Words. Layer 5: the reference's lower, from 0 to 312 (printed by gen_rlower.py). Layer 5: the reference's lower, from 313 to 908 (printed by gen_rlower.py). Layer 5: the reference's lower, from 909 to 2047 (printed by gen_rlower.py). Layer 5: the reference's lower, below 2048 (printed by gen_rlower.py). append of two bytes, and of a string, onto a row of bytes of the call's own. Layer 5: the reference's Fold. -/
import Derived.Lib.AppendStr
import Derived.Test.YtfinpehbpcckaaaGreatDoorM12
import Derived.Test.YtfinpehbpcckaaaGreatDoorM08
import Derived.Test.YtfinpehbpcckaaaGreatDoorM03
section
namespace Go.Proofs.YtfinpehbpcckaaaGreatDoor
open Go.RowKit
set_option linter.unusedVariables false

theorem rRun_nil (k a : Nat) (out : List (Nat × Nat)) (opn : Bool) : rRun k [] a out opn = out := by
  cases k with
  | zero => rfl
  | succ k => unfold rRun; rw [if_pos rfl]
theorem rRun_cons {k : Nat} {l : List UInt8} (h : l ≠ []) (hk : l.length ≤ k) (a : Nat) (out : List (Nat × Nat)) (opn : Bool) :
    rRun k l a out opn = rRun (k - 1) (l.drop (uN l).2) (a + (uN l).2) (rStep l a out opn).1 (rStep l a out opn).2 ∧ (l.drop (uN l).2).length ≤ k - 1 := by
  have hp := uN_pos l h
  cases k with
  | zero => exact absurd (List.eq_nil_of_length_eq_zero (by omega)) h
  | succ k =>
    refine ⟨?_, by rw [List.length_drop]; omega⟩
    conv => lhs; unfold rRun
    rw [if_neg h]; rfl
/-- The state at the first loop's head: k units are read, pos bytes of them. -/
structure RWSt (l : List UInt8) (us : List (List UInt8)) (k pos : Nat) (opn : Bool) (ts : List Wd) : Prop where
  rest : us.drop k = unitsP (l.drop pos)
  run : ∃ f, (l.drop pos).length ≤ f ∧ rRun f (l.drop pos) pos (ts.map (·.2)) opn = rangesP l
  bare : ∀ t, t ∈ ts → t.1 = [] ∧ t.2.1 ≤ t.2.2 ∧ t.2.2 ≤ pos
  few : ts.length ≤ k
  some_ : opn = true → ts ≠ []
  posle : pos ≤ l.length
/-- What a unit of the class kd, n bytes long, makes of the words. -/
def wdStep (kd : Int) (n pos : Nat) (opn : Bool) (ts : List Wd) : List Wd :=
  if kd = 1 ∧ opn = true ∧ (ts.getLastD ([], 0, 0)).2.2 - (ts.getLastD ([], 0, 0)).2.1 + n ≤ 40 then ts.set (ts.length - 1) ((ts.getLastD ([], 0, 0)).1, (ts.getLastD ([], 0, 0)).2.1, (ts.getLastD ([], 0, 0)).2.2 + n)
  else if 0 < kd then ts ++ [([], pos, pos + n)] else ts
theorem set_last {α : Type} (l : List α) (a : α) (h : l ≠ []) : l.set (l.length - 1) a = l.dropLast ++ [a] := by
  have e := List.dropLast_concat_getLast h
  conv => lhs; rw [← e]
  rw [List.length_append, List.length_singleton, Nat.add_sub_cancel, List.set_append_right _ _ (Nat.le_refl _), Nat.sub_self]; rfl
theorem getLastD_map {α β : Type} (f : α → β) (l : List α) (d : α) : (l.map f).getLastD (f d) = f (l.getLastD d) := by
  rw [List.getLastD_eq_getLast?, List.getLastD_eq_getLast?, List.getLast?_map]
  cases l.getLast? <;> rfl
theorem RWSt.step {l : List UInt8} {us : List (List UInt8)} {k pos : Nat} {opn : Bool} {ts : List Wd} (h : RWSt l us k pos opn ts) (hk : k < us.length) :
    ∃ n : Nat, us[k] = (l.drop pos).take n ∧ 1 ≤ n ∧ n ≤ 4 ∧ us[k].length = n ∧ pos + n ≤ l.length ∧ RWSt l us (k + 1) (pos + n) (decide (uK us[k] = 1)) (wdStep (uK us[k]) n pos opn ts) := by
  have hne : l.drop pos ≠ [] := by
    intro e
    have := h.rest
    rw [e, unitsP_nil] at this
    have := congrArg List.length this
    rw [List.length_drop] at this
    simp at this; omega
  have hp := uN_pos _ hne
  rw [List.length_drop] at hp
  have hr := h.rest
  rw [unitsP_cons hne, List.drop_eq_getElem_cons hk] at hr
  injection hr with hr1 hr2
  rw [List.drop_drop] at hr2
  have huk := uK_take hne
  rw [← hr1] at huk
  have hlen : us[k].length = (uN (l.drop pos)).2 := by rw [hr1, List.length_take, List.length_drop]; omega
  refine ⟨(uN (l.drop pos)).2, hr1, hp.1, hp.2.2.1, hlen, by omega, ?_⟩
  obtain ⟨f, hf, hrun⟩ := h.run
  obtain ⟨h1, h2⟩ := rRun_cons hne hf pos (ts.map (·.2)) opn
  rw [h1, List.drop_drop] at hrun
  rw [List.drop_drop] at h2
  have hst : (rStep (l.drop pos) pos (ts.map (·.2)) opn).1 = (wdStep (uK us[k]) (uN (l.drop pos)).2 pos opn ts).map (·.2) ∧ (rStep (l.drop pos) pos (ts.map (·.2)) opn).2 = decide (uK us[k] = 1) := by
    rw [huk]
    refine ⟨?_, rfl⟩
    have hl : (ts.map (·.2)).getLastD (0, 0) = (ts.getLastD ([], 0, 0)).2 := getLastD_map (fun t : Wd => t.2) ts ([], 0, 0)
    unfold rStep wdStep
    rw [hl]
    dsimp only
    split
    · rename_i hc
      rw [set_last ts _ (h.some_ hc.2.1), List.map_append, List.map_dropLast]
      rfl
    · split
      · rw [List.map_append]; rfl
      · rfl
  rw [hst.1, hst.2] at hrun
  have hlast : ts ≠ [] → ts.getLastD ([], 0, 0) ∈ ts := fun hn => by
    rw [List.getLastD_eq_getLast?, List.getLast?_eq_some_getLast hn]
    exact List.getLast_mem hn
  refine ⟨hr2, ⟨f - 1, h2, hrun⟩, ?_, ?_, ?_, by omega⟩
  · intro t ht
    unfold wdStep at ht
    split at ht
    · rename_i hc
      have hb := h.bare _ (hlast (h.some_ hc.2.1))
      rcases List.mem_or_eq_of_mem_set ht with ht | ht
      · have := h.bare t ht; exact ⟨this.1, this.2.1, by omega⟩
      · subst ht; exact ⟨hb.1, Nat.le_trans hb.2.1 (Nat.le_add_right _ _), Nat.add_le_add_right hb.2.2 _⟩
    · split at ht
      · rcases List.mem_append.1 ht with ht | ht
        · have := h.bare t ht; exact ⟨this.1, this.2.1, by omega⟩
        · rw [List.mem_singleton] at ht; subst ht; exact ⟨rfl, by show pos ≤ pos + _; omega, Nat.le_refl _⟩
      · have := h.bare t ht; exact ⟨this.1, this.2.1, by omega⟩
  · have := h.few
    unfold wdStep
    split
    · rw [List.length_set]; omega
    · split
      · rw [List.length_append, List.length_singleton]; omega
      · omega
  · intro ho
    have ho : uK us[k] = 1 := of_decide_eq_true ho
    unfold wdStep
    split
    · rename_i hc
      intro e
      have := congrArg List.length e
      rw [List.length_set] at this
      exact h.some_ hc.2.1 (List.eq_nil_of_length_eq_zero (by simpa using this))
    · rw [if_pos (by omega)]; simp
theorem RWSt.done {l : List UInt8} {us : List (List UInt8)} {k pos : Nat} {opn : Bool} {ts : List Wd} (h : RWSt l us k pos opn ts) (hk : us.length ≤ k) : ts.map (·.2) = rangesP l := by
  have h1 := h.rest
  rw [List.drop_of_length_le hk] at h1
  have h2 : l.drop pos = [] := by
    by_cases e : l.drop pos = []
    · exact e
    · rw [unitsP_cons e] at h1; cases h1
  obtain ⟨f, _, hr⟩ := h.run
  rw [h2, rRun_nil] at hr
  exact hr
theorem RWSt.start (l : List UInt8) : RWSt l (unitsP l) 0 0 false [] :=
  ⟨rfl, ⟨l.length, Nat.le_refl _, runs_meet l.length l 0 (-1) [] [] false (Nat.le_refl _) (.inr ⟨rfl, rfl, rfl⟩)⟩, (fun t ht => by cases ht), Nat.le_refl _, (fun e => by cases e), Nat.zero_le _⟩
end Go.Proofs.YtfinpehbpcckaaaGreatDoor
end
section
namespace Go.Proofs.YtfinpehbpcckaaaGreatDoor
open Go.RowKit
set_option linter.unusedVariables false

set_option maxRecDepth 100000 in
set_option maxHeartbeats 40000000 in
theorem rlowerR_A (y : Int) (w : World) (h0 : 0 ≤ y) (h1 : y ≤ 312) : Calls Tryz.prog 164 #[.int .i64 y] w fun e w' => e = .returned (.int .i64 (rlower y)) ∧ w' = w := by
  rcases (by omega : (0 ≤ y ∧ y ≤ 64) ∨ (65 ≤ y ∧ y ≤ 90) ∨ (91 ≤ y ∧ y ≤ 191) ∨ (192 ≤ y ∧ y ≤ 214) ∨ (215 ≤ y ∧ y ≤ 215) ∨ (216 ≤ y ∧ y ≤ 222) ∨ (223 ≤ y ∧ y ≤ 255) ∨ (256 ≤ y ∧ y ≤ 303) ∨ (304 ≤ y ∧ y ≤ 305) ∨ (306 ≤ y ∧ y ≤ 311) ∨ (312 ≤ y ∧ y ≤ 312)) with ⟨l, u⟩ | ⟨l, u⟩ | ⟨l, u⟩ | ⟨l, u⟩ | ⟨l, u⟩ | ⟨l, u⟩ | ⟨l, u⟩ | ⟨l, u⟩ | ⟨l, u⟩ | ⟨l, u⟩ | ⟨l, u⟩
  · clear h0 h1
    rcases (by omega : y % 2 = 0 ∨ y % 2 = 1) with hpar | hpar
    · have e1 : (y == 910) = false := by simp; omega
      have e2 : (y == 911) = false := by simp; omega
      have HR := Lib.hid (show rlower y = y by unfold rlower; repeat' split; all_goals omega)
      go_enter Tryz.func164, Tryz.ntmps164
      go_wp2
      go_ret
      exact ⟨by rw [HR.out]; rfl, rfl⟩
    · have e1 : (y == 910) = false := by simp; omega
      have e2 : (y == 911) = false := by simp; omega
      have HR := Lib.hid (show rlower y = y by unfold rlower; repeat' split; all_goals omega)
      go_enter Tryz.func164, Tryz.ntmps164
      go_wp2
      go_ret
      exact ⟨by rw [HR.out]; rfl, rfl⟩
  · clear h0 h1
    rcases (by omega : y % 2 = 0 ∨ y % 2 = 1) with hpar | hpar
    · have e1 : (y == 910) = false := by simp; omega
      have e2 : (y == 911) = false := by simp; omega
      have HR := Lib.hid (show rlower y = y + 32 by unfold rlower; repeat' split; all_goals omega)
      go_enter Tryz.func164, Tryz.ntmps164
      go_wp2
      go_ret
      exact ⟨by rw [HR.out]; rfl, rfl⟩
    · have e1 : (y == 910) = false := by simp; omega
      have e2 : (y == 911) = false := by simp; omega
      have HR := Lib.hid (show rlower y = y + 32 by unfold rlower; repeat' split; all_goals omega)
      go_enter Tryz.func164, Tryz.ntmps164
      go_wp2
      go_ret
      exact ⟨by rw [HR.out]; rfl, rfl⟩
  · clear h0 h1
    rcases (by omega : y % 2 = 0 ∨ y % 2 = 1) with hpar | hpar
    · have e1 : (y == 910) = false := by simp; omega
      have e2 : (y == 911) = false := by simp; omega
      have HR := Lib.hid (show rlower y = y by unfold rlower; repeat' split; all_goals omega)
      go_enter Tryz.func164, Tryz.ntmps164
      go_wp2
      go_ret
      exact ⟨by rw [HR.out]; rfl, rfl⟩
    · have e1 : (y == 910) = false := by simp; omega
      have e2 : (y == 911) = false := by simp; omega
      have HR := Lib.hid (show rlower y = y by unfold rlower; repeat' split; all_goals omega)
      go_enter Tryz.func164, Tryz.ntmps164
      go_wp2
      go_ret
      exact ⟨by rw [HR.out]; rfl, rfl⟩
  · clear h0 h1
    rcases (by omega : y % 2 = 0 ∨ y % 2 = 1) with hpar | hpar
    · have e1 : (y == 910) = false := by simp; omega
      have e2 : (y == 911) = false := by simp; omega
      have HR := Lib.hid (show rlower y = y + 32 by unfold rlower; repeat' split; all_goals omega)
      go_enter Tryz.func164, Tryz.ntmps164
      go_wp2
      go_ret
      exact ⟨by rw [HR.out]; rfl, rfl⟩
    · have e1 : (y == 910) = false := by simp; omega
      have e2 : (y == 911) = false := by simp; omega
      have HR := Lib.hid (show rlower y = y + 32 by unfold rlower; repeat' split; all_goals omega)
      go_enter Tryz.func164, Tryz.ntmps164
      go_wp2
      go_ret
      exact ⟨by rw [HR.out]; rfl, rfl⟩
  · clear h0 h1
    rcases (by omega : y % 2 = 0 ∨ y % 2 = 1) with hpar | hpar
    · exfalso; omega
    · have e1 : (y == 910) = false := by simp; omega
      have e2 : (y == 911) = false := by simp; omega
      have HR := Lib.hid (show rlower y = y by unfold rlower; repeat' split; all_goals omega)
      go_enter Tryz.func164, Tryz.ntmps164
      go_wp2
      go_ret
      exact ⟨by rw [HR.out]; rfl, rfl⟩
  · clear h0 h1
    rcases (by omega : y % 2 = 0 ∨ y % 2 = 1) with hpar | hpar
    · have e1 : (y == 910) = false := by simp; omega
      have e2 : (y == 911) = false := by simp; omega
      have HR := Lib.hid (show rlower y = y + 32 by unfold rlower; repeat' split; all_goals omega)
      go_enter Tryz.func164, Tryz.ntmps164
      go_wp2
      go_ret
      exact ⟨by rw [HR.out]; rfl, rfl⟩
    · have e1 : (y == 910) = false := by simp; omega
      have e2 : (y == 911) = false := by simp; omega
      have HR := Lib.hid (show rlower y = y + 32 by unfold rlower; repeat' split; all_goals omega)
      go_enter Tryz.func164, Tryz.ntmps164
      go_wp2
      go_ret
      exact ⟨by rw [HR.out]; rfl, rfl⟩
  · clear h0 h1
    rcases (by omega : y % 2 = 0 ∨ y % 2 = 1) with hpar | hpar
    · have e1 : (y == 910) = false := by simp; omega
      have e2 : (y == 911) = false := by simp; omega
      have HR := Lib.hid (show rlower y = y by unfold rlower; repeat' split; all_goals omega)
      go_enter Tryz.func164, Tryz.ntmps164
      go_wp2
      go_ret
      exact ⟨by rw [HR.out]; rfl, rfl⟩
    · have e1 : (y == 910) = false := by simp; omega
      have e2 : (y == 911) = false := by simp; omega
      have HR := Lib.hid (show rlower y = y by unfold rlower; repeat' split; all_goals omega)
      go_enter Tryz.func164, Tryz.ntmps164
      go_wp2
      go_ret
      exact ⟨by rw [HR.out]; rfl, rfl⟩
  · clear h0 h1
    rcases (by omega : y % 2 = 0 ∨ y % 2 = 1) with hpar | hpar
    · have e1 : (y == 910) = false := by simp; omega
      have e2 : (y == 911) = false := by simp; omega
      have HR := Lib.hid (show rlower y = y + 1 by unfold rlower; repeat' split; all_goals omega)
      go_enter Tryz.func164, Tryz.ntmps164
      go_wp2
      go_ret
      exact ⟨by rw [HR.out]; rfl, rfl⟩
    · have e1 : (y == 910) = false := by simp; omega
      have e2 : (y == 911) = false := by simp; omega
      have HR := Lib.hid (show rlower y = y by unfold rlower; repeat' split; all_goals omega)
      go_enter Tryz.func164, Tryz.ntmps164
      go_wp2
      go_ret
      exact ⟨by rw [HR.out]; rfl, rfl⟩
  · clear h0 h1
    rcases (by omega : y % 2 = 0 ∨ y % 2 = 1) with hpar | hpar
    · have e1 : (y == 910) = false := by simp; omega
      have e2 : (y == 911) = false := by simp; omega
      have HR := Lib.hid (show rlower y = y by unfold rlower; repeat' split; all_goals omega)
      go_enter Tryz.func164, Tryz.ntmps164
      go_wp2
      go_ret
      exact ⟨by rw [HR.out]; rfl, rfl⟩
    · have e1 : (y == 910) = false := by simp; omega
      have e2 : (y == 911) = false := by simp; omega
      have HR := Lib.hid (show rlower y = y by unfold rlower; repeat' split; all_goals omega)
      go_enter Tryz.func164, Tryz.ntmps164
      go_wp2
      go_ret
      exact ⟨by rw [HR.out]; rfl, rfl⟩
  · clear h0 h1
    rcases (by omega : y % 2 = 0 ∨ y % 2 = 1) with hpar | hpar
    · have e1 : (y == 910) = false := by simp; omega
      have e2 : (y == 911) = false := by simp; omega
      have HR := Lib.hid (show rlower y = y + 1 by unfold rlower; repeat' split; all_goals omega)
      go_enter Tryz.func164, Tryz.ntmps164
      go_wp2
      go_ret
      exact ⟨by rw [HR.out]; rfl, rfl⟩
    · have e1 : (y == 910) = false := by simp; omega
      have e2 : (y == 911) = false := by simp; omega
      have HR := Lib.hid (show rlower y = y by unfold rlower; repeat' split; all_goals omega)
      go_enter Tryz.func164, Tryz.ntmps164
      go_wp2
      go_ret
      exact ⟨by rw [HR.out]; rfl, rfl⟩
  · clear h0 h1
    rcases (by omega : y % 2 = 0 ∨ y % 2 = 1) with hpar | hpar
    · have e1 : (y == 910) = false := by simp; omega
      have e2 : (y == 911) = false := by simp; omega
      have HR := Lib.hid (show rlower y = y by unfold rlower; repeat' split; all_goals omega)
      go_enter Tryz.func164, Tryz.ntmps164
      go_wp2
      go_ret
      exact ⟨by rw [HR.out]; rfl, rfl⟩
    · exfalso; omega
end Go.Proofs.YtfinpehbpcckaaaGreatDoor
end
section
namespace Go.Proofs.YtfinpehbpcckaaaGreatDoor
open Go.RowKit
set_option linter.unusedVariables false

set_option maxRecDepth 100000 in
set_option maxHeartbeats 40000000 in
theorem rlowerR_B (y : Int) (w : World) (h0 : 313 ≤ y) (h1 : y ≤ 908) : Calls Tryz.prog 164 #[.int .i64 y] w fun e w' => e = .returned (.int .i64 (rlower y)) ∧ w' = w := by
  rcases (by omega : (313 ≤ y ∧ y ≤ 328) ∨ (329 ≤ y ∧ y ≤ 329) ∨ (330 ≤ y ∧ y ≤ 375) ∨ (376 ≤ y ∧ y ≤ 376) ∨ (377 ≤ y ∧ y ≤ 382) ∨ (383 ≤ y ∧ y ≤ 901) ∨ (902 ≤ y ∧ y ≤ 902) ∨ (903 ≤ y ∧ y ≤ 903) ∨ (904 ≤ y ∧ y ≤ 906) ∨ (907 ≤ y ∧ y ≤ 907) ∨ (908 ≤ y ∧ y ≤ 908)) with ⟨l, u⟩ | ⟨l, u⟩ | ⟨l, u⟩ | ⟨l, u⟩ | ⟨l, u⟩ | ⟨l, u⟩ | ⟨l, u⟩ | ⟨l, u⟩ | ⟨l, u⟩ | ⟨l, u⟩ | ⟨l, u⟩
  · clear h0 h1
    rcases (by omega : y % 2 = 0 ∨ y % 2 = 1) with hpar | hpar
    · have e1 : (y == 910) = false := by simp; omega
      have e2 : (y == 911) = false := by simp; omega
      have HR := Lib.hid (show rlower y = y by unfold rlower; repeat' split; all_goals omega)
      go_enter Tryz.func164, Tryz.ntmps164
      go_wp2
      go_ret
      exact ⟨by rw [HR.out]; rfl, rfl⟩
    · have e1 : (y == 910) = false := by simp; omega
      have e2 : (y == 911) = false := by simp; omega
      have HR := Lib.hid (show rlower y = y + 1 by unfold rlower; repeat' split; all_goals omega)
      go_enter Tryz.func164, Tryz.ntmps164
      go_wp2
      go_ret
      exact ⟨by rw [HR.out]; rfl, rfl⟩
  · clear h0 h1
    rcases (by omega : y % 2 = 0 ∨ y % 2 = 1) with hpar | hpar
    · exfalso; omega
    · have e1 : (y == 910) = false := by simp; omega
      have e2 : (y == 911) = false := by simp; omega
      have HR := Lib.hid (show rlower y = y by unfold rlower; repeat' split; all_goals omega)
      go_enter Tryz.func164, Tryz.ntmps164
      go_wp2
      go_ret
      exact ⟨by rw [HR.out]; rfl, rfl⟩
  · clear h0 h1
    rcases (by omega : y % 2 = 0 ∨ y % 2 = 1) with hpar | hpar
    · have e1 : (y == 910) = false := by simp; omega
      have e2 : (y == 911) = false := by simp; omega
      have HR := Lib.hid (show rlower y = y + 1 by unfold rlower; repeat' split; all_goals omega)
      go_enter Tryz.func164, Tryz.ntmps164
      go_wp2
      go_ret
      exact ⟨by rw [HR.out]; rfl, rfl⟩
    · have e1 : (y == 910) = false := by simp; omega
      have e2 : (y == 911) = false := by simp; omega
      have HR := Lib.hid (show rlower y = y by unfold rlower; repeat' split; all_goals omega)
      go_enter Tryz.func164, Tryz.ntmps164
      go_wp2
      go_ret
      exact ⟨by rw [HR.out]; rfl, rfl⟩
  · clear h0 h1
    rcases (by omega : y % 2 = 0 ∨ y % 2 = 1) with hpar | hpar
    · have e1 : (y == 910) = false := by simp; omega
      have e2 : (y == 911) = false := by simp; omega
      have HR := Lib.hid (show rlower y = 255 by unfold rlower; repeat' split; all_goals omega)
      go_enter Tryz.func164, Tryz.ntmps164
      go_wp2
      go_ret
      exact ⟨by rw [HR.out]; rfl, rfl⟩
    · exfalso; omega
  · clear h0 h1
    rcases (by omega : y % 2 = 0 ∨ y % 2 = 1) with hpar | hpar
    · have e1 : (y == 910) = false := by simp; omega
      have e2 : (y == 911) = false := by simp; omega
      have HR := Lib.hid (show rlower y = y by unfold rlower; repeat' split; all_goals omega)
      go_enter Tryz.func164, Tryz.ntmps164
      go_wp2
      go_ret
      exact ⟨by rw [HR.out]; rfl, rfl⟩
    · have e1 : (y == 910) = false := by simp; omega
      have e2 : (y == 911) = false := by simp; omega
      have HR := Lib.hid (show rlower y = y + 1 by unfold rlower; repeat' split; all_goals omega)
      go_enter Tryz.func164, Tryz.ntmps164
      go_wp2
      go_ret
      exact ⟨by rw [HR.out]; rfl, rfl⟩
  · clear h0 h1
    rcases (by omega : y % 2 = 0 ∨ y % 2 = 1) with hpar | hpar
    · have e1 : (y == 910) = false := by simp; omega
      have e2 : (y == 911) = false := by simp; omega
      have HR := Lib.hid (show rlower y = y by unfold rlower; repeat' split; all_goals omega)
      go_enter Tryz.func164, Tryz.ntmps164
      go_wp2
      go_ret
      exact ⟨by rw [HR.out]; rfl, rfl⟩
    · have e1 : (y == 910) = false := by simp; omega
      have e2 : (y == 911) = false := by simp; omega
      have HR := Lib.hid (show rlower y = y by unfold rlower; repeat' split; all_goals omega)
      go_enter Tryz.func164, Tryz.ntmps164
      go_wp2
      go_ret
      exact ⟨by rw [HR.out]; rfl, rfl⟩
  · clear h0 h1
    rcases (by omega : y % 2 = 0 ∨ y % 2 = 1) with hpar | hpar
    · have e1 : (y == 910) = false := by simp; omega
      have e2 : (y == 911) = false := by simp; omega
      have HR := Lib.hid (show rlower y = 940 by unfold rlower; repeat' split; all_goals omega)
      go_enter Tryz.func164, Tryz.ntmps164
      go_wp2
      go_ret
      exact ⟨by rw [HR.out]; rfl, rfl⟩
    · exfalso; omega
  · clear h0 h1
    rcases (by omega : y % 2 = 0 ∨ y % 2 = 1) with hpar | hpar
    · exfalso; omega
    · have e1 : (y == 910) = false := by simp; omega
      have e2 : (y == 911) = false := by simp; omega
      have HR := Lib.hid (show rlower y = y by unfold rlower; repeat' split; all_goals omega)
      go_enter Tryz.func164, Tryz.ntmps164
      go_wp2
      go_ret
      exact ⟨by rw [HR.out]; rfl, rfl⟩
  · clear h0 h1
    rcases (by omega : y % 2 = 0 ∨ y % 2 = 1) with hpar | hpar
    · have e1 : (y == 910) = false := by simp; omega
      have e2 : (y == 911) = false := by simp; omega
      have HR := Lib.hid (show rlower y = y + 37 by unfold rlower; repeat' split; all_goals omega)
      go_enter Tryz.func164, Tryz.ntmps164
      go_wp2
      go_ret
      exact ⟨by rw [HR.out]; rfl, rfl⟩
    · have e1 : (y == 910) = false := by simp; omega
      have e2 : (y == 911) = false := by simp; omega
      have HR := Lib.hid (show rlower y = y + 37 by unfold rlower; repeat' split; all_goals omega)
      go_enter Tryz.func164, Tryz.ntmps164
      go_wp2
      go_ret
      exact ⟨by rw [HR.out]; rfl, rfl⟩
  · clear h0 h1
    rcases (by omega : y % 2 = 0 ∨ y % 2 = 1) with hpar | hpar
    · exfalso; omega
    · have e1 : (y == 910) = false := by simp; omega
      have e2 : (y == 911) = false := by simp; omega
      have HR := Lib.hid (show rlower y = y by unfold rlower; repeat' split; all_goals omega)
      go_enter Tryz.func164, Tryz.ntmps164
      go_wp2
      go_ret
      exact ⟨by rw [HR.out]; rfl, rfl⟩
  · clear h0 h1
    rcases (by omega : y % 2 = 0 ∨ y % 2 = 1) with hpar | hpar
    · have e1 : (y == 910) = false := by simp; omega
      have e2 : (y == 911) = false := by simp; omega
      have HR := Lib.hid (show rlower y = y + 64 by unfold rlower; repeat' split; all_goals omega)
      go_enter Tryz.func164, Tryz.ntmps164
      go_wp2
      go_ret
      exact ⟨by rw [HR.out]; rfl, rfl⟩
    · exfalso; omega
end Go.Proofs.YtfinpehbpcckaaaGreatDoor
end
section
namespace Go.Proofs.YtfinpehbpcckaaaGreatDoor
open Go.RowKit
set_option linter.unusedVariables false

set_option maxRecDepth 100000 in
set_option maxHeartbeats 40000000 in
theorem rlowerR_C (y : Int) (w : World) (h0 : 909 ≤ y) (h1 : y ≤ 2047) : Calls Tryz.prog 164 #[.int .i64 y] w fun e w' => e = .returned (.int .i64 (rlower y)) ∧ w' = w := by
  rcases (by omega : (909 ≤ y ∧ y ≤ 909) ∨ (910 ≤ y ∧ y ≤ 910) ∨ (911 ≤ y ∧ y ≤ 911) ∨ (912 ≤ y ∧ y ≤ 912) ∨ (913 ≤ y ∧ y ≤ 929) ∨ (930 ≤ y ∧ y ≤ 930) ∨ (931 ≤ y ∧ y ≤ 939) ∨ (940 ≤ y ∧ y ≤ 1023) ∨ (1024 ≤ y ∧ y ≤ 1039) ∨ (1040 ≤ y ∧ y ≤ 1071) ∨ (1072 ≤ y ∧ y ≤ 2047)) with ⟨l, u⟩ | ⟨l, u⟩ | ⟨l, u⟩ | ⟨l, u⟩ | ⟨l, u⟩ | ⟨l, u⟩ | ⟨l, u⟩ | ⟨l, u⟩ | ⟨l, u⟩ | ⟨l, u⟩ | ⟨l, u⟩
  · clear h0 h1
    rcases (by omega : y % 2 = 0 ∨ y % 2 = 1) with hpar | hpar
    · exfalso; omega
    · have e1 : (y == 910) = false := by simp; omega
      have e2 : (y == 911) = false := by simp; omega
      have HR := Lib.hid (show rlower y = y by unfold rlower; repeat' split; all_goals omega)
      go_enter Tryz.func164, Tryz.ntmps164
      go_wp2
      go_ret
      exact ⟨by rw [HR.out]; rfl, rfl⟩
  · clear h0 h1
    rcases (by omega : y % 2 = 0 ∨ y % 2 = 1) with hpar | hpar
    · obtain rfl : y = 910 := by omega
      have HR := Lib.hid (show rlower 910 = 910+63 by decide)
      clear l u hpar
      go_enter Tryz.func164, Tryz.ntmps164
      go_wp2
      go_ret
      exact ⟨by rw [HR.out]; rfl, rfl⟩
    · exfalso; omega
  · clear h0 h1
    rcases (by omega : y % 2 = 0 ∨ y % 2 = 1) with hpar | hpar
    · exfalso; omega
    · obtain rfl : y = 911 := by omega
      have HR := Lib.hid (show rlower 911 = 911+63 by decide)
      clear l u hpar
      go_enter Tryz.func164, Tryz.ntmps164
      go_wp2
      go_ret
      exact ⟨by rw [HR.out]; rfl, rfl⟩
  · clear h0 h1
    rcases (by omega : y % 2 = 0 ∨ y % 2 = 1) with hpar | hpar
    · have e1 : (y == 910) = false := by simp; omega
      have e2 : (y == 911) = false := by simp; omega
      have HR := Lib.hid (show rlower y = y by unfold rlower; repeat' split; all_goals omega)
      go_enter Tryz.func164, Tryz.ntmps164
      go_wp2
      go_ret
      exact ⟨by rw [HR.out]; rfl, rfl⟩
    · exfalso; omega
  · clear h0 h1
    rcases (by omega : y % 2 = 0 ∨ y % 2 = 1) with hpar | hpar
    · have e1 : (y == 910) = false := by simp; omega
      have e2 : (y == 911) = false := by simp; omega
      have HR := Lib.hid (show rlower y = y + 32 by unfold rlower; repeat' split; all_goals omega)
      go_enter Tryz.func164, Tryz.ntmps164
      go_wp2
      go_ret
      exact ⟨by rw [HR.out]; rfl, rfl⟩
    · have e1 : (y == 910) = false := by simp; omega
      have e2 : (y == 911) = false := by simp; omega
      have HR := Lib.hid (show rlower y = y + 32 by unfold rlower; repeat' split; all_goals omega)
      go_enter Tryz.func164, Tryz.ntmps164
      go_wp2
      go_ret
      exact ⟨by rw [HR.out]; rfl, rfl⟩
  · clear h0 h1
    rcases (by omega : y % 2 = 0 ∨ y % 2 = 1) with hpar | hpar
    · have e1 : (y == 910) = false := by simp; omega
      have e2 : (y == 911) = false := by simp; omega
      have HR := Lib.hid (show rlower y = y by unfold rlower; repeat' split; all_goals omega)
      go_enter Tryz.func164, Tryz.ntmps164
      go_wp2
      go_ret
      exact ⟨by rw [HR.out]; rfl, rfl⟩
    · exfalso; omega
  · clear h0 h1
    rcases (by omega : y % 2 = 0 ∨ y % 2 = 1) with hpar | hpar
    · have e1 : (y == 910) = false := by simp; omega
      have e2 : (y == 911) = false := by simp; omega
      have HR := Lib.hid (show rlower y = y + 32 by unfold rlower; repeat' split; all_goals omega)
      go_enter Tryz.func164, Tryz.ntmps164
      go_wp2
      go_ret
      exact ⟨by rw [HR.out]; rfl, rfl⟩
    · have e1 : (y == 910) = false := by simp; omega
      have e2 : (y == 911) = false := by simp; omega
      have HR := Lib.hid (show rlower y = y + 32 by unfold rlower; repeat' split; all_goals omega)
      go_enter Tryz.func164, Tryz.ntmps164
      go_wp2
      go_ret
      exact ⟨by rw [HR.out]; rfl, rfl⟩
  · clear h0 h1
    rcases (by omega : y % 2 = 0 ∨ y % 2 = 1) with hpar | hpar
    · have e1 : (y == 910) = false := by simp; omega
      have e2 : (y == 911) = false := by simp; omega
      have HR := Lib.hid (show rlower y = y by unfold rlower; repeat' split; all_goals omega)
      go_enter Tryz.func164, Tryz.ntmps164
      go_wp2
      go_ret
      exact ⟨by rw [HR.out]; rfl, rfl⟩
    · have e1 : (y == 910) = false := by simp; omega
      have e2 : (y == 911) = false := by simp; omega
      have HR := Lib.hid (show rlower y = y by unfold rlower; repeat' split; all_goals omega)
      go_enter Tryz.func164, Tryz.ntmps164
      go_wp2
      go_ret
      exact ⟨by rw [HR.out]; rfl, rfl⟩
  · clear h0 h1
    rcases (by omega : y % 2 = 0 ∨ y % 2 = 1) with hpar | hpar
    · have e1 : (y == 910) = false := by simp; omega
      have e2 : (y == 911) = false := by simp; omega
      have HR := Lib.hid (show rlower y = y + 80 by unfold rlower; repeat' split; all_goals omega)
      go_enter Tryz.func164, Tryz.ntmps164
      go_wp2
      go_ret
      exact ⟨by rw [HR.out]; rfl, rfl⟩
    · have e1 : (y == 910) = false := by simp; omega
      have e2 : (y == 911) = false := by simp; omega
      have HR := Lib.hid (show rlower y = y + 80 by unfold rlower; repeat' split; all_goals omega)
      go_enter Tryz.func164, Tryz.ntmps164
      go_wp2
      go_ret
      exact ⟨by rw [HR.out]; rfl, rfl⟩
  · clear h0 h1
    rcases (by omega : y % 2 = 0 ∨ y % 2 = 1) with hpar | hpar
    · have e1 : (y == 910) = false := by simp; omega
      have e2 : (y == 911) = false := by simp; omega
      have HR := Lib.hid (show rlower y = y + 32 by unfold rlower; repeat' split; all_goals omega)
      go_enter Tryz.func164, Tryz.ntmps164
      go_wp2
      go_ret
      exact ⟨by rw [HR.out]; rfl, rfl⟩
    · have e1 : (y == 910) = false := by simp; omega
      have e2 : (y == 911) = false := by simp; omega
      have HR := Lib.hid (show rlower y = y + 32 by unfold rlower; repeat' split; all_goals omega)
      go_enter Tryz.func164, Tryz.ntmps164
      go_wp2
      go_ret
      exact ⟨by rw [HR.out]; rfl, rfl⟩
  · clear h0 h1
    rcases (by omega : y % 2 = 0 ∨ y % 2 = 1) with hpar | hpar
    · have e1 : (y == 910) = false := by simp; omega
      have e2 : (y == 911) = false := by simp; omega
      have HR := Lib.hid (show rlower y = y by unfold rlower; repeat' split; all_goals omega)
      go_enter Tryz.func164, Tryz.ntmps164
      go_wp2
      go_ret
      exact ⟨by rw [HR.out]; rfl, rfl⟩
    · have e1 : (y == 910) = false := by simp; omega
      have e2 : (y == 911) = false := by simp; omega
      have HR := Lib.hid (show rlower y = y by unfold rlower; repeat' split; all_goals omega)
      go_enter Tryz.func164, Tryz.ntmps164
      go_wp2
      go_ret
      exact ⟨by rw [HR.out]; rfl, rfl⟩
end Go.Proofs.YtfinpehbpcckaaaGreatDoor
end
section
namespace Go.Proofs.YtfinpehbpcckaaaGreatDoor
open Go.RowKit
theorem rlowerR_any (y : Int) (w : World) (h0 : 0 ≤ y) (h1 : y < 2048) : Calls Tryz.prog 164 #[.int .i64 y] w fun e w' => e = .returned (.int .i64 (rlower y)) ∧ w' = w := by
  by_cases h2 : y ≤ 312
  · exact rlowerR_A y w h0 h2
  · by_cases h3 : y ≤ 908
    · exact rlowerR_B y w (by omega) h3
    · exact rlowerR_C y w (by omega) (by omega)
end Go.Proofs.YtfinpehbpcckaaaGreatDoor
end
section
namespace Go.Proofs.YtfinpehbpcckaaaGreatDoor
open Go.RowKit
set_option linter.unusedVariables false

theorem wpList_pushByte2 {ops : Array Oper} {rest : List Oper} {o : Oper} {a : Act} {W : World} {Q : Exit → Act → World → Prop} {B : Nat} {y z : UInt8} {u t : Int} {v : Value} {l : List UInt8} (hown : OwnBytes W B v l) (hB : B ≤ W.heap.size)
    (hu : u = (y.toNat : Int)) (ht : t = (z.toNat : Int)) (hlen : l.length < 1099511627776) (hgd : o.guard = none) (s x : Operand) (c : Nat)
    (ho : o.op = .call { callee := .builtin .append, args := #[s, x], argTypes := #[76, 76] })
    (hs : a.eval s = v) (hx : a.eval x = .slice (some ⟨W.heap.size, 0, none⟩) 2 c)
    (h : ∀ v' w', OwnBytes w' B v' (l ++ [y, z]) → W.grownBy w' v.ownBlock → wpList Tryz.prog ops Q rest (a.put o.dst v') w') :
    wpList Tryz.prog ops Q (o :: rest) a (W.alloc (.cells #[.int .u8 u, .int .u8 t] 5)) := by
  obtain ⟨i0, hi, hz0, hz1, hz2⟩ := info_parts info_u8
  subst hu
  subst ht
  have hl : (Lib.byteCells l).length = l.length := Lib.byteCells_length l
  refine wpList_append_own_at _ hgd s x 76 ho B 5 i0 _ 1 1 Tryz.underlying76 hi hz0 hz1 hz2 rfl (by omega) v l.length (Lib.byteCells l) hs (World.ownsRow.alloc hown _) ⟨W.heap.size, 0, none⟩ 2 c [.int .u8 y.toNat, .int .u8 z.toNat] hx rfl (World.news_of_block (MapKept.heap_alloc W _).1) ?_ (by simp only [maxLen]; omega) (by omega) (by simp; omega) ?_
  · intro u hu
    simp only [List.mem_cons, List.not_mem_nil, or_false] at hu
    rcases hu with rfl | rfl <;> rfl
  · intro v' w' h1 h2 _ h4
    refine h v' w' ?_ ?_
    · unfold OwnBytes
      rw [Lib.byteCells_append, List.length_append]
      exact h1
    · have h5 := World.grownBy_alloc W (.cells #[.int .u8 y.toNat, .int .u8 z.toNat] 5) v.ownBlock
      exact ⟨h2.os.trans h5.os, h2.tape.trans h5.tape, h2.output.trans h5.output, Nat.le_trans h5.size h2.size, fun k hk hne => (h2.block k (by simp; omega) hne).trans (h5.block k hk hne)⟩
theorem wpList_pushText {ops : Array Oper} {rest : List Oper} {o : Oper} {a : Act} {W : World} {Q : Exit → Act → World → Prop} {B : Nat} {t : List UInt8} {v : Value} {l : List UInt8} (hown : OwnBytes W B v l) (hB : B ≤ W.heap.size)
    (hlen : l.length < 1099511627776) (hlen2 : t.length < 1099511627776) (hgd : o.guard = none) (s x : Operand)
    (ho : o.op = .call { callee := .builtin .append, args := #[s, x], argTypes := #[76, 9] })
    (hs : a.eval s = v) (hx : a.eval x = .string (ba t))
    (h : ∀ v' w', OwnBytes w' B v' (l ++ t) → W.grownBy w' v.ownBlock → wpList Tryz.prog ops Q rest (a.put o.dst v') w') :
    wpList Tryz.prog ops Q (o :: rest) a W := by
  obtain ⟨i0, hi, hz0, hz1, hz2⟩ := info_parts info_u8
  refine Lib.wpList_append_own_string W hgd s x 76 9 ho B 5 i0 Tryz.underlying76 Tryz.underlying9 hi hz0 hz1 hz2 v l.length (Lib.byteCells l) hs hown (ba t) hx (by rw [ba_size]; simp only [maxLen]; omega) (by rw [ba_size]; omega) hB ?_
  intro v' w' h1 h2 _
  refine h v' w' ?_ h2
  unfold OwnBytes
  rw [Lib.byteCells_append, List.length_append]
  rw [ba_size] at h1
  exact h1
end Go.Proofs.YtfinpehbpcckaaaGreatDoor
end
section
namespace Go.Proofs.YtfinpehbpcckaaaGreatDoor
open Go.RowKit
set_option linter.unusedVariables false

theorem Strs.at_ {w : World} {B n k : Nat} {A : Option Addr} {ss : List (List UInt8)} (h : Strs w B A n ss) (hk : k < ss.length) : ∃ ad, A = some ad ∧ ad.block < B ∧ w.cell? (ad.add k) = some (.string (ba ss[k])) := by
  obtain ⟨ad, u, e, hb, hx, hc⟩ := h.2.at_ (k := k) (by simpa [sv] using hk)
  refine ⟨ad, e, hb, ?_⟩
  rw [hc, ← hx]
  simp [sv, hk]
theorem Strs.below {w w' : World} {B n : Nat} {A : Option Addr} {ss : List (List UInt8)} (h : Strs w B A n ss) (hb : Below B w w') : Strs w' B A n ss := ⟨h.1, h.2.below hb⟩
def RFoldRel (w : World) (us : List (List UInt8)) (k : Nat) (v : Value) (wr : World) : Prop := OwnBytes wr w.heap.size v ((us.take k).flatMap gU) ∧ Below w.heap.size w wr
theorem OwnBytes.shape {w : World} {B : Nat} {v : Value} {l : List UInt8} (h : OwnBytes w B v l) : ∃ A c, v = .slice A l.length c := by
  rcases h.2 with ⟨rfl, h0⟩ | ⟨g, cap, cur, rfl, hb, hg, q1, q2, q3⟩
  · exact ⟨none, 0, by rw [h0]⟩
  · exact ⟨_, cap, rfl⟩
set_option maxRecDepth 100000 in
set_option maxHeartbeats 4000000 in
theorem rfold_any (l : List UInt8) (w : World) (hl : l.length ≤ 1000000000) : Calls Tryz.prog 137 #[.string (ba l)] w (StrPost w (foldP l)) := by
  go_enter Tryz.func137, Tryz.ntmps137
  go_wp2_with fail
  refine (units_any l w hl).mono ?_
  rintro e w1 ⟨v, rfl, hv, hb⟩
  obtain ⟨A, c, rfl, hc1, hc2, hS⟩ := hv.strs
  have HF := Lib.hid (fold_units l.length l (Nat.le_refl _))
  have HM := Lib.hid (units_mem l.length l (Nat.le_refl _))
  have hul := units_len l.length l (Nat.le_refl _)
  obtain ⟨us, hus⟩ : ∃ us, unitsP l = us := ⟨_, rfl⟩
  rw [hus] at hS HF HM hul hc1
  rw [hus]
  obtain ⟨n, hn⟩ : ∃ n, us.length = n := ⟨_, rfl⟩
  rw [hn] at hS hul hc1
  rw [hn]
  have HN := Lib.hid hn
  have HS := Lib.hid hS
  have HB := Lib.hid hb
  have hn9 : n ≤ 1000000000 := by omega
  have hsz1 : w.heap.size ≤ w1.heap.size := hb.size
  clear hn hS hb hv hus hul hl hc2
  go_wp2
  go_loopw [4, 5] (fun v i wr => ∃ k : Nat, k ≤ n ∧ i = .int .i64 (k : Int) ∧ Hid (RFoldRel w1 us k v wr)) (fun _ i _ => n - (intOf i).toNat)
  case atStart => exact ⟨0, Nat.zero_le _, rfl, OwnBytes.nil_ _ _, Below.refl _ _⟩
  case round =>
    obtain ⟨k, hk, rfl, HR⟩ := hrel
    have hB := HR.out.2.size
    by_cases hlt : k < n
    · have hk2 : (k : Int) < n := by omega
      have hkl : k < us.length := by rw [HN.out]; exact hlt
      obtain ⟨ad, rfl, hbl, c0⟩ := (HS.out.below HR.out.2).at_ hkl
      obtain ⟨u, hu⟩ : ∃ u, us[k] = u := ⟨_, rfl⟩
      have hm := HM.out _ (List.getElem_mem hkl)
      rw [hu] at c0 hm
      have HT := Lib.hid (show (us.take (k + 1)).flatMap gU = (us.take k).flatMap gU ++ gU u by
        rw [List.take_succ_eq_append_getElem hkl, List.flatMap_append, hu]; simp)
      have HAL := Lib.hid (show ((us.take k).flatMap gU).length < 1099511627776 by
        have := gU_all (us.take k) (fun u hu => (HM.out u (List.mem_of_mem_take hu)).2)
        rw [List.length_take] at this; omega)
      have HOWN := Lib.hid HR.out.1
      have HBEL := Lib.hid HR.out.2
      obtain ⟨s, hs⟩ : ∃ s, ba u = s := ⟨_, rfl⟩
      have hss : s.size = u.length := by rw [← hs, ba_size]
      have HG := Lib.hid (show ∀ j (hj : j < s.size), (s[j]'hj).toNat = bt u j from fun j hj => by subst hs; exact byte_at u j hj)
      have HU := Lib.hid hs
      rw [hs] at c0
      clear hu hs HR
      obtain ⟨m, hm1⟩ : ∃ m, u.length = m := ⟨_, rfl⟩
      have HML := Lib.hid hm1
      rw [hm1] at hss hm
      clear hm1
      by_cases h1 : m = 1
      · subst h1
        have hz : (s.size : Int) = 1 := by omega
        have hp : 0 < s.size := by omega
        have hu1 : (s[0].toNat : Int) ≤ 255 := by have := s[0].toNat_lt; omega
        have hu0 : (0 : Int) ≤ (s[0].toNat : Int) := by omega
        by_cases hb : s[0].toNat < 128
        · have hb2 : (s[0].toNat : Int) < 128 := by omega
          have HGU0 := Lib.hid (show gU u = [UInt8.ofNat (rlower (s[0].toNat : Int)).toNat] by
            unfold gU
            rw [if_pos HML.out, ← HG.out 0 hp, if_pos hb])
          go_wp2_with fail
          refine (rlowerR_any _ wr hu0 (by omega)).mono ?_
          rintro e w2 ⟨rfl, rfl⟩
          have hlo := rlower_low hu0
          obtain ⟨y, hy⟩ : ∃ y, rlower (s[0].toNat : Int) = y := ⟨_, rfl⟩
          rw [hy] at hlo HGU0
          rw [hy]
          have HGU := Lib.hid HGU0.out
          have hy0 : 0 ≤ y := hlo.1
          have hy1 : y ≤ 255 := by omega
          have HYB := Lib.hid (show y = ((UInt8.ofNat y.toNat).toNat : Int) by rw [UInt8.toNat_ofNat']; omega)
          clear hy hlo
          go_wp2_with (at_builtin; go_must (refine wpList_pushByte (y := UInt8.ofNat y.toNat) HOWN.out hB HYB.out HAL.out rfl (.tmp 39) (.tmp 42) 1 rfl rfl rfl ?_); intro v2 w2 h1 h2 h3; (have H1 := Lib.hid h1; have H2 := Lib.hid h2; clear h1 h2 h3))
          go_roundw
          case rel =>
            refine ⟨k + 1, by omega, by go_num, ?_, HBEL.out.grown H2.out hB fun g e => (World.ownsRow.lt HOWN.out g e).1⟩
            rw [HT.out, HGU.out]
            exact H1.out
          case measure => simp [intOf] <;> omega
        · have hb2 : ¬ (s[0].toNat : Int) < 128 := by omega
          have HGU := Lib.hid (show gU u = [s[0]] by
            unfold gU
            rw [if_pos HML.out, ← HG.out 0 hp, if_neg hb]
            have h9 := HML.out
            have h10 := HU.out
            subst h10
            match u, h9 with
            | [a], _ => rfl)
          go_wp2_with (at_builtin; go_must (refine wpList_pushByte (y := s[0]) HOWN.out hB rfl HAL.out rfl (.tmp 39) (.tmp 42) 1 rfl rfl rfl ?_); intro v2 w2 h1 h2 h3; (have H1 := Lib.hid h1; have H2 := Lib.hid h2; clear h1 h2 h3))
          go_roundw
          case rel =>
            refine ⟨k + 1, by omega, by go_num, ?_, HBEL.out.grown H2.out hB fun g e => (World.ownsRow.lt HOWN.out g e).1⟩
            rw [HT.out, HGU.out]
            exact H1.out
          case measure => simp [intOf] <;> omega
      · by_cases h2 : m = 2
        · subst h2
          have HSZ := Lib.hid hss
          have hz : (s.size : Int) = 2 := by omega
          have hru := rrune_any u wr (by rw [HML.out]; omega) (by rw [HML.out]; omega)
          rw [HU.out] at hru
          have HRU := Lib.hid hru
          have hx2 : rv u < 2048 := by
            unfold rv
            rw [HML.out, if_neg (by omega)]
            have := rvF_lt u 1
            omega
          have HGU0 := Lib.hid (show gU u = [UInt8.ofNat (192 + (rlower (rv u : Int)).toNat / 64), UInt8.ofNat (128 + (rlower (rv u : Int)).toNat % 64)] by
            unfold gU
            rw [HML.out, if_neg (by omega), if_pos rfl])
          clear hru
          go_wp2_with fail
          refine HRU.out.mono ?_
          rintro e w2 ⟨rfl, rfl⟩
          have hx3 : (0 : Int) ≤ (rv u : Int) ∧ (rv u : Int) < 2048 := by omega
          obtain ⟨x, hx⟩ : ∃ x : Int, (rv u : Int) = x := ⟨_, rfl⟩
          rw [hx] at hx3 HGU0
          rw [hx]
          have HX3 := Lib.hid hx3
          clear hx hx2 hx3 HRU
          go_wp2_with fail
          refine (rlowerR_any _ _ HX3.out.1 HX3.out.2).mono ?_
          rintro e w3 ⟨rfl, rfl⟩
          have hx2 := HX3.out
          have hlo := rlower_low HX3.out.1
          obtain ⟨y, hy⟩ : ∃ y, rlower x = y := ⟨_, rfl⟩
          rw [hy] at hlo HGU0
          rw [hy]
          have HGU := Lib.hid HGU0.out
          have hy0 : 0 ≤ y := hlo.1
          have hy1 : y ≤ 2127 := by omega
          clear hy hlo hx2
          have HQ1 := Lib.hid (show 192 + y / 64 = ((UInt8.ofNat (192 + y.toNat / 64)).toNat : Int) by rw [UInt8.toNat_ofNat']; omega)
          have HQ2 := Lib.hid (show 128 + y % 64 = ((UInt8.ofNat (128 + y.toNat % 64)).toNat : Int) by rw [UInt8.toNat_ofNat']; omega)
          go_wp2_with (at_builtin; go_must (refine wpList_pushByte2 (y := UInt8.ofNat (192 + y.toNat / 64)) (z := UInt8.ofNat (128 + y.toNat % 64)) HOWN.out hB HQ1.out HQ2.out HAL.out rfl (.tmp 52) (.tmp 61) 2 rfl rfl rfl ?_); intro v2 w4 h1 h2; (have H1 := Lib.hid h1; have H2 := Lib.hid h2; clear h1 h2))
          go_roundw
          case rel =>
            refine ⟨k + 1, by omega, by go_num, ?_, HBEL.out.grown H2.out hB fun g e => (World.ownsRow.lt HOWN.out g e).1⟩
            rw [HT.out, HGU.out]
            exact H1.out
          case measure => simp [intOf] <;> omega
        · have h3 : 3 ≤ m := by omega
          have hz : (3 : Int) ≤ (s.size : Int) := by omega
          have HGU := Lib.hid (show gU u = u by unfold gU; rw [HML.out, if_neg (by omega), if_neg (by omega)])
          have hq1 : ¬ (s.size : Int) = 1 := by omega
          have hq2 : ¬ (s.size : Int) = 2 := by omega
          go_wp2_with (at_builtin; go_must (refine wpList_pushText (t := u) HOWN.out hB HAL.out (by rw [HML.out]; omega) rfl (.tmp 21) (.tmp 25) rfl rfl (by rw [HU.out]; rfl) ?_); intro v2 w2 h1 h2; (have H1 := Lib.hid h1; have H2 := Lib.hid h2; clear h1 h2))
          go_roundw
          case rel =>
            refine ⟨k + 1, by omega, by go_num, ?_, HBEL.out.grown H2.out hB fun g e => (World.ownsRow.lt HOWN.out g e).1⟩
            rw [HT.out, HGU.out]
            exact H1.out
          case measure => simp [intOf] <;> omega
    · obtain rfl : k = n := by omega
      have hfin : (us.take k).flatMap gU = foldP l := by
        rw [HF.out, List.take_of_length_le (by rw [HN.out]; exact Nat.le_refl _)]
      have hown := HR.out.1
      rw [hfin] at hown
      have hstr := hown.str
      have HB2 := Lib.hid (HB.out.trans (HR.out.2.mono hsz1))
      clear hfin hown HR
      go_wp2
      go_ret
      exact ⟨rfl, HB2.out⟩
end Go.Proofs.YtfinpehbpcckaaaGreatDoor
end
