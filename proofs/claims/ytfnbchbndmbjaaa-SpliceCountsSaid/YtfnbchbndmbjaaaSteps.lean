/- The reference's Steps: the alignment as a list of 0, 1 and 2. -/
import Derived.Test.YtfnbchbndmbjaaaTable
namespace Go.Proofs.Ytfnbchbndmbjaaa
open Go.RowKit
set_option linter.unusedVariables false

def code : Ev → Int
  | .keep _ => 0
  | .del _ => 1
  | .ins _ => 2

/-- What Steps holds before a round. -/
def StepsAt (w wr : World) (n m : Nat) (a b : List Int) (o i j : Value) : Prop :=
  ∃ (r c : Nat) (done : List Ev), i = .int .i64 r ∧ j = .int .i64 c ∧ r ≤ n ∧ c ≤ m ∧ done.length ≤ r + c ∧ align a b = done ++ align (a.drop r) (b.drop c) ∧
    OwnInts wr w.heap.size o (done.map code) ∧ Below w.heap.size w wr
theorem StepsAt.more {w w1 : World} {n m : Nat} {a b : List Int} {v1 : Value} {r c r' c' : Nat} {done : List Ev} (x : Ev) (y : Int) (hy : y = code x) (hr : r' ≤ n) (hc : c' ≤ m) (hl : done.length ≤ r + c) (hrc : r' + c' ≥ r + c + 1)
    (hal : align a b = done ++ align (a.drop r) (b.drop c)) (hx : align (a.drop r) (b.drop c) = x :: align (a.drop r') (b.drop c')) (hown : OwnInts w1 w.heap.size v1 (done.map code ++ [y])) (hbel : Below w.heap.size w w1) :
    StepsAt w w1 n m a b v1 (.int .i64 r') (.int .i64 c') :=
  ⟨r', c', done ++ [x], rfl, rfl, hr, hc, by simp; omega, by rw [hal, hx]; simp, by rw [List.map_append]; rw [hy] at hown; exact hown, hbel⟩

theorem OwnInts.mono {w : World} {B B' : Nat} {v : Value} {acc : List Int} (h : OwnInts w B v acc) (hB : B' ≤ B) : OwnInts w B' v acc :=
  ⟨⟨h.1.1, h.1.2.imp id fun ⟨g, cap, cur, a, b, r⟩ => ⟨g, cap, cur, a, Nat.le_trans hB b, r⟩⟩, h.2⟩

set_option maxRecDepth 100000 in
set_option maxHeartbeats 2000000 in
theorem steps_any (A B : Option Addr) (n m c d : Nat) (a b : List Int) (w : World) (ha : Ints w w.heap.size A n a) (hb : Ints w w.heap.size B m b) (hn : n ≤ 1024) (hm : m ≤ 1024) :
    Calls Try.prog 25 #[.slice A n c, .slice B m d] w fun e w' => ∃ v, e = .returned v ∧ OwnInts w' w.heap.size v ((align a b).map code) ∧ Below w.heap.size w w' := by
  have HN := Lib.hid ha.len
  have HM := Lib.hid hb.len
  go_enter Try.func25, Try.ntmps25
  go_wp2_with fail
  refine (lengths_any A B n m c d a b _ ha hb hn hm).mono ?_
  rintro e w1 ⟨rfl, hsz, hT, hb1⟩
  have hHT := Lib.hid hT; clear hT
  go_wp2
  go_loopw [6, 7, 8, 9] (fun o i j _ wr => StepsAt w1 wr n m a b o i j) (fun _ i j _ _ => n + m - (intOf i).toNat - (intOf j).toNat)
  case atStart => exact ⟨0, 0, [], rfl, rfl, Nat.zero_le _, Nat.zero_le _, by simp, by simp, OwnInts.nil_ _ _, Below.refl _ _⟩
  case round =>
    obtain ⟨r, q, done, rfl, rfl, hr, hq, hdl, hal, hown, hbel⟩ := hrel
    have HAL := Lib.hid hal; clear hal
    have HT := Lib.hid (hHT.out.below hbel hsz)
    have hdl' : (done.map code).length < 1099511627776 := by rw [List.length_map]; omega
    by_cases hrn : r < n
    · obtain ⟨ad, rfl, hba, hca0⟩ := ha.at_ (k := r) (by omega)
      have hca : wr.cell? (ad.add r) = some (.int .i64 (gi a r)) := (hbel.cell (p := ad.add r) (by rw [add_block]; omega)).trans ((hb1.cell (p := ad.add r) (by rw [add_block]; exact hba)).trans hca0)
      clear hca0
      by_cases hqm : q < m
      · obtain ⟨bd, rfl, hbb, hcb0⟩ := hb.at_ (k := q) (by omega)
        have hcb : wr.cell? (bd.add q) = some (.int .i64 (gi b q)) := (hbel.cell (p := bd.add q) (by rw [add_block]; omega)).trans ((hb1.cell (p := bd.add q) (by rw [add_block]; exact hbb)).trans hcb0)
        clear hcb0
        by_cases he : gi a r = gi b q
        · have hx := Lib.hid (align_keep (a := a) (b := b) (by rw [HN.out]; exact hrn) (by rw [HM.out]; exact hqm) he)
          have hne : (gi a r == gi b q) = true := by simpa using he
          clear he
          go_wp2
          go_quiet (fail)
          go_wp2_with (at_builtin; go_must (refine wpList_push (hown.drewN _) hbel.size (by omega) hdl' rfl (.tmp 81) (.tmp 83) 22 1 rfl Try.underlying22 rfl rfl ?_); intro v' w2 hown1 hg1 hat1)
          go_roundw
          case rel => exact StepsAt.more (r := r) (c := q) (r' := r + 1) (c' := q + 1) (.keep (gi a r)) _ rfl (by omega) (by omega) hdl (by omega) HAL.out hx.out hown1 ((drewBelow hbel _).grown hg1 hbel.size hown.base)
          case measure => simp [intOf] <;> omega
        · have hne : (gi a r == gi b q) = false := by simpa using he
          have HE := Lib.hid he; clear he
          have h0 := HT.out.1 r (by omega)
          have h1 := HT.out.1 (r + 1) (by omega)
          obtain ⟨h2, _⟩ := HT.out.2 (r + 1) q (by omega) (by omega)
          obtain ⟨h3, _⟩ := HT.out.2 r (q + 1) (by omega) (by omega)
          obtain ⟨x1, hx1⟩ : ∃ x, x = tab a b (r + 1) q := ⟨_, rfl⟩
          obtain ⟨x2, hx2⟩ : ∃ x, x = tab a b r (q + 1) := ⟨_, rfl⟩
          rw [← hx1] at h2
          rw [← hx2] at h3
          have HX := Lib.hid (And.intro hx1 hx2)
          clear hx1 hx2
          by_cases hle : x2 ≤ x1
          · have hx := Lib.hid (align_del (a := a) (b := b) (by rw [HN.out]; exact hrn) (by rw [HM.out]; exact hqm) HE.out (by rw [← HX.out.1, ← HX.out.2]; exact hle))
            have hg1 : decide (m ≤ q) = false := by simp; omega
            go_wp2
            go_quiet (fail)
            go_wp2
            have b1 : (r : Int) < (n : Int) + 1 := by omega
            have b2 : (r : Int) + 1 < (n : Int) + 1 := by omega
            have b3 : (q : Int) < (m : Int) + 1 := by omega
            have b4 : (q : Int) + 1 < (m : Int) + 1 := by omega
            have z1 : 0 ≤ (r : Int) + 1 := by omega
            have z2 : 0 ≤ (q : Int) + 1 := by omega
            have t1 : ((r : Int) + 1).toNat = r + 1 := by omega
            have t2 : ((q : Int) + 1).toNat = q + 1 := by omega
            have w1 : IntKind.i64.wrap ((r : Int) + 1) = r + 1 := IntWalk.i64_in _ (by omega)
            have w2 : IntKind.i64.wrap ((q : Int) + 1) = q + 1 := IntWalk.i64_in _ (by omega)
            go_quiet (fail)
            clear w1 w2 z1 z2 t1 t2 b1 b2 b3 b4
            go_wp2_with (at_builtin; go_must (refine wpList_push (hown.drewN _) hbel.size (by omega) hdl' rfl (.tmp 81) (.tmp 83) 22 1 rfl Try.underlying22 rfl rfl ?_); intro v' w2 hown1 hg1 hat1)
            go_roundw
            case rel => exact StepsAt.more (r := r) (c := q) (r' := r + 1) (c' := q) (.del (gi a r)) _ rfl (by omega) (by omega) hdl (by omega) HAL.out hx.out hown1 ((drewBelow hbel _).grown hg1 hbel.size hown.base)
            case measure => simp [intOf] <;> omega
          · have hx := Lib.hid (align_ins (a := a) (b := b) (by rw [HN.out]; exact hrn) (by rw [HM.out]; exact hqm) HE.out (by rw [← HX.out.1, ← HX.out.2]; exact hle))
            have hg1 : decide (m ≤ q) = false := by simp; omega
            go_wp2
            go_quiet (fail)
            go_wp2
            have b1 : (r : Int) < (n : Int) + 1 := by omega
            have b2 : (r : Int) + 1 < (n : Int) + 1 := by omega
            have b3 : (q : Int) < (m : Int) + 1 := by omega
            have b4 : (q : Int) + 1 < (m : Int) + 1 := by omega
            have z1 : 0 ≤ (r : Int) + 1 := by omega
            have z2 : 0 ≤ (q : Int) + 1 := by omega
            have t1 : ((r : Int) + 1).toNat = r + 1 := by omega
            have t2 : ((q : Int) + 1).toNat = q + 1 := by omega
            have w1 : IntKind.i64.wrap ((r : Int) + 1) = r + 1 := IntWalk.i64_in _ (by omega)
            have w2 : IntKind.i64.wrap ((q : Int) + 1) = q + 1 := IntWalk.i64_in _ (by omega)
            go_quiet (fail)
            clear w1 w2 z1 z2 t1 t2 b1 b2 b3 b4
            go_wp2_with (at_builtin; go_must (refine wpList_push (hown.drewN _) hbel.size (by omega) hdl' rfl (.tmp 81) (.tmp 83) 22 1 rfl Try.underlying22 rfl rfl ?_); intro v' w2 hown1 hg1 hat1)
            go_roundw
            case rel => exact StepsAt.more (r := r) (c := q) (r' := r) (c' := q + 1) (.ins (gi b q)) _ rfl (by omega) (by omega) hdl (by omega) HAL.out hx.out hown1 ((drewBelow hbel _).grown hg1 hbel.size hown.base)
            case measure => simp [intOf] <;> omega
      · obtain rfl : q = m := by omega
        have hx := Lib.hid (align_del_end (a := a) (b := b) (r := r) (c := q) (by rw [HN.out]; exact hrn) (by rw [HM.out]; omega))
        have hd0 : decide (q < q) = false := by simp
        have hd1 : decide ((q : Int) < q) = false := by simp
        go_wp2
        go_quiet (fail)
        go_wp2
        go_quiet (fail)
        go_wp2_with (at_builtin; go_must (refine wpList_push (hown.drewN _) hbel.size (by omega) hdl' rfl (.tmp 81) (.tmp 83) 22 1 rfl Try.underlying22 rfl rfl ?_); intro v' w2 hown1 hg1 hat1)
        go_roundw
        case rel => exact StepsAt.more (r := r) (c := q) (r' := r + 1) (c' := q) (.del (gi a r)) _ rfl (by omega) (by omega) hdl (by omega) HAL.out hx.out hown1 ((drewBelow hbel _).grown hg1 hbel.size hown.base)
        case measure => simp [intOf] <;> omega
    · obtain rfl : r = n := by omega
      have hd0 : decide (r < r) = false := by simp
      have hd1 : decide ((r : Int) < r) = false := by simp
      by_cases hqm : q < m
      · have hx := Lib.hid (align_ins_end (a := a) (b := b) (r := r) (c := q) (by rw [HN.out]; omega) (by rw [HM.out]; exact hqm))
        go_wp2
        go_quiet (fail)
        go_wp2
        go_quiet (fail)
        go_wp2_with (at_builtin; go_must (refine wpList_push (hown.drewN _) hbel.size (by omega) hdl' rfl (.tmp 81) (.tmp 83) 22 1 rfl Try.underlying22 rfl rfl ?_); intro v' w2 hown1 hg1 hat1)
        go_roundw
        case rel => exact StepsAt.more (r := r) (c := q) (r' := r) (c' := q + 1) (.ins (gi b q)) _ rfl (by omega) (by omega) hdl (by omega) HAL.out hx.out hown1 ((drewBelow hbel _).grown hg1 hbel.size hown.base)
        case measure => simp [intOf] <;> omega
      · have HF := Lib.hid (show (align a b).map code = done.map code by rw [HAL.out, align_done (by rw [HN.out]; omega) (by rw [HM.out]; omega)]; simp)
        go_wp2
        go_ret
        exact ⟨_, rfl, by rw [HF.out]; exact hown.mono (by omega), hb1.trans (hbel.mono (by omega))⟩
end Go.Proofs.Ytfnbchbndmbjaaa
