/- The reference's Keep returns the kept elements of the alignment. -/
import Derived.Test.YtfnbchbndmbjaaaSteps
namespace Go.Proofs.Ytfnbchbndmbjaaa
open Go.RowKit
set_option linter.unusedVariables false

/-- What the alignment of two rests begins with. -/
theorem align_cases (a b : List Int) (r c : Nat) : (a.length ≤ r ∧ b.length ≤ c ∧ align (a.drop r) (b.drop c) = []) ∨
    (r < a.length ∧ c < b.length ∧ gi a r = gi b c ∧ align (a.drop r) (b.drop c) = .keep (gi a r) :: align (a.drop (r + 1)) (b.drop (c + 1))) ∨
    (r < a.length ∧ align (a.drop r) (b.drop c) = .del (gi a r) :: align (a.drop (r + 1)) (b.drop c)) ∨
    (c < b.length ∧ align (a.drop r) (b.drop c) = .ins (gi b c) :: align (a.drop r) (b.drop (c + 1))) := by
  by_cases hr : r < a.length
  · by_cases hc : c < b.length
    · by_cases he : gi a r = gi b c
      · exact .inr (.inl ⟨hr, hc, he, align_keep hr hc he⟩)
      · by_cases ht : tab a b r (c + 1) ≤ tab a b (r + 1) c
        · exact .inr (.inr (.inl ⟨hr, align_del hr hc he ht⟩))
        · exact .inr (.inr (.inr ⟨hc, align_ins hr hc he ht⟩))
    · exact .inr (.inr (.inl ⟨hr, align_del_end hr (by omega)⟩))
  · by_cases hc : c < b.length
    · exact .inr (.inr (.inr ⟨hc, align_ins_end (by omega) hc⟩))
    · exact .inl ⟨by omega, by omega, align_done (by omega) (by omega)⟩

theorem align_len (N : Nat) : ∀ a b : List Int, a.length + b.length ≤ N → (align a b).length ≤ a.length + b.length := by
  induction N with
  | zero =>
    intro a b h
    have ha : a = [] := List.eq_nil_of_length_eq_zero (by omega)
    subst ha; simp [align]
  | succ N ih =>
    intro a b h
    match a, b with
    | [], b => simp [align]
    | x :: xs, [] => simp [align]
    | x :: xs, y :: ys =>
      simp only [List.length_cons] at h
      rw [align]
      split
      · have := ih xs ys (by omega); simp only [List.length_cons]; omega
      · split
        · have := ih xs (y :: ys) (by simp only [List.length_cons]; omega); simp only [List.length_cons] at this ⊢; omega
        · have := ih (x :: xs) ys (by simp only [List.length_cons]; omega); simp only [List.length_cons] at this ⊢; omega

theorem gi_map_code {es done rest : List Ev} {x : Ev} (h : es = done ++ x :: rest) : gi (es.map code) done.length = code x := by
  subst h
  simp [gi]

/-- What Keep holds before a round. -/
def RKeepAt (w w1 wr : World) (n m : Nat) (a b : List Int) (o i k : Value) : Prop :=
  ∃ (r c : Nat) (done : List Ev), i = .int .i64 r ∧ k = .int .i64 done.length ∧ r ≤ n ∧ c ≤ m ∧ (kept done).length ≤ r ∧ align a b = done ++ align (a.drop r) (b.drop c) ∧
    OwnInts wr w1.heap.size o (kept done) ∧ Below w1.heap.size w1 wr

theorem rkeep_big (A B : Option Addr) (n m c d : Nat) (w : World) (hn : n ≤ maxLen) (hm : m ≤ maxLen) (h : 1024 < n ∨ 1024 < m) :
    Calls Try.prog 13 #[.slice A n c, .slice B m d] w fun e w' => e = .returned (.slice none 0 0) ∧ w = w' := by
  unfold maxLen at hn hm
  by_cases h1 : 1024 < n
  · go_enter Try.func13, Try.ntmps13
    go_wp2
    go_ret
    exact ⟨rfl, rfl⟩
  · have h2 : 1024 < m := by omega
    go_enter Try.func13, Try.ntmps13
    go_wp2
    go_ret
    exact ⟨rfl, rfl⟩

set_option maxRecDepth 100000 in
set_option maxHeartbeats 1000000 in
theorem rkeep_any (A B : Option Addr) (n m c d : Nat) (a b : List Int) (w : World) (ha : Ints w w.heap.size A n a) (hb : Ints w w.heap.size B m b) (hn : n ≤ 1024) (hm : m ≤ 1024) :
    Calls Try.prog 13 #[.slice A n c, .slice B m d] w fun e w' => ∃ v, e = .returned v ∧ OwnInts w' w.heap.size v (kept (align a b)) ∧ Below w.heap.size w w' := by
  have HN := Lib.hid ha.len
  have HM := Lib.hid hb.len
  have hlen := align_len _ a b (Nat.le_refl _)
  rw [HN.out, HM.out] at hlen
  go_enter Try.func13, Try.ntmps13
  go_wp2_with fail
  refine (steps_any A B n m c d a b _ ha hb hn hm).mono ?_
  rintro e w1 ⟨v, rfl, hown0, hb1⟩
  obtain ⟨D, e, rfl, _, _, hst⟩ := hown0.ints
  rw [List.length_map] at hst ⊢
  obtain ⟨L, hL⟩ : ∃ L, L = (align a b).length := ⟨_, rfl⟩
  have HL := Lib.hid hL
  rw [← hL] at hst hlen ⊢
  clear hL hown0
  go_wp2
  go_loopw [6, 7, 8] (fun o i k wr => RKeepAt w w1 wr n m a b o i k) (fun _ _ k _ => L - (intOf k).toNat)
  case atStart => exact ⟨0, 0, [], rfl, rfl, Nat.zero_le _, Nat.zero_le _, by simp [kept], by simp, OwnInts.nil_ _ _, Below.refl _ _⟩
  case round =>
    obtain ⟨r, q, done, rfl, rfl, hr, hq, hkl, hal, hown, hbel⟩ := hrel
    have HAL := Lib.hid hal; clear hal
    have hs : ∀ x rest, align (a.drop r) (b.drop q) = x :: rest → done.length < L ∧ ∃ sd, D = some sd ∧ wr.cell? (sd.add done.length) = some (.int .i64 (code x)) := by
      intro x rest hx
      have h1 := HAL.out
      rw [hx] at h1
      have h2 : done.length < L := by rw [HL.out, h1]; simp
      obtain ⟨sd, e1, h3, h4⟩ := hst.at_ h2
      refine ⟨h2, sd, e1, ?_⟩
      rw [gi_map_code h1] at h4
      exact (hbel.cell (p := sd.add done.length) (by rw [add_block]; exact h3)).trans h4
    have hk1 : (kept done).length < 1099511627776 := by omega
    rcases align_cases a b r q with ⟨_, _, hx⟩ | ⟨hrn, hqm, he, hx⟩ | ⟨hrn, hx⟩ | ⟨hqm, hx⟩
    · have hF := HAL.out
      rw [hx, List.append_nil] at hF
      have HF := Lib.hid hF
      have hl : L = done.length := by rw [HL.out, hF]
      clear hF hx hs
      subst hl
      go_wp2
      go_ret
      exact ⟨_, rfl, by rw [HF.out]; exact hown.mono hb1.size, hb1.trans (hbel.mono hb1.size)⟩
    · clear he
      obtain ⟨hdL, sd, rfl, hcs⟩ := hs _ _ hx
      replace hcs : wr.cell? (sd.add done.length) = some (.int .i64 0) := hcs
      rw [HN.out] at hrn
      rw [HM.out] at hqm
      have HX := Lib.hid hx; clear hx hs
      obtain ⟨ad, rfl, hba, hca0⟩ := ha.at_ (k := r) (by omega)
      have hca : wr.cell? (ad.add r) = some (.int .i64 (gi a r)) := (hbel.cell (p := ad.add r) (by rw [add_block]; have := hb1.size; omega)).trans ((hb1.cell (p := ad.add r) (by rw [add_block]; exact hba)).trans hca0)
      clear hca0
      have hgb := ha.bounds r
      have hcs' : ∀ w2, Below w1.heap.size wr w2 → w2.cell? (sd.add done.length) = some (.int .i64 0) := fun w2 hw => (hw.cell (p := sd.add done.length) (by
        obtain ⟨sd', e', hb', _⟩ := hst.at_ hdL
        injection e' with e'
        rw [add_block, e']; exact hb')).trans hcs
      have HC := Lib.hid hcs'; clear hcs'
      go_wp2_with (at_builtin; go_must (refine wpList_push hown hbel.size hgb hk1 rfl (.tmp 31) (.tmp 36) 22 1 rfl Try.underlying22 rfl rfl ?_); intro v' w2 hown1 hg1 hat1; have hcs2 := HC.out w2 ((Below.refl _ _).grown hg1 hbel.size hown.base))
      go_roundw
      case rel => exact ⟨r + 1, q + 1, done ++ [.keep (gi a r)], by go_num, by simp, by omega, by omega, by rw [kept_append]; simp [kept]; omega, by rw [HAL.out, HX.out]; simp, by rw [kept_append]; exact hown1, hbel.grown hg1 hbel.size hown.base⟩
      case measure => simp [intOf] <;> omega
    · obtain ⟨hdL, sd, rfl, hcs⟩ := hs _ _ hx
      replace hcs : wr.cell? (sd.add done.length) = some (.int .i64 1) := hcs
      rw [HN.out] at hrn
      have HX := Lib.hid hx; clear hx hs
      go_wp2
      go_roundw
      case rel => exact ⟨r + 1, q, done ++ [.del (gi a r)], by go_num, by simp, by omega, by omega, by rw [kept_append]; simp [kept]; omega, by rw [HAL.out, HX.out]; simp, by rw [kept_append]; simpa [kept] using hown, hbel⟩
      case measure => simp [intOf] <;> omega
    · obtain ⟨hdL, sd, rfl, hcs⟩ := hs _ _ hx
      replace hcs : wr.cell? (sd.add done.length) = some (.int .i64 2) := hcs
      rw [HM.out] at hqm
      have HX := Lib.hid hx; clear hx hs
      go_wp2
      go_roundw
      case rel => exact ⟨r, q + 1, done ++ [.ins (gi b q)], rfl, by simp, by omega, by omega, by rw [kept_append]; simp [kept]; omega, by rw [HAL.out, HX.out]; simp, by rw [kept_append]; simpa [kept] using hown, hbel⟩
      case measure => simp [intOf] <;> omega
end Go.Proofs.Ytfnbchbndmbjaaa
