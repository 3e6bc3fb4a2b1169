/- The program's Apply. -/
import Derived.Test.YtfnbchbndmbjaaaConcat
import Derived.Test.YtfnbchbndmbjaaaSameAll
import Derived.StillTailTactics
namespace Go.Proofs.Ytfnbchbndmbjaaa
open Go.RowKit
set_option linter.unusedVariables false

theorem take_ints {A : Option Addr} {n c h : Nat} (hn : h ≤ c) (W : World) : (Instr.slice 22 (.slice A n c) none (some (.int .i64 (h : Int))) none).run Try.prog W = .ok (.slice A h c) W := by
  obtain ⟨i0, hi, hz0, hz1, hz2⟩ := info_parts int_info
  rw [run_slice_h (P := Try.prog) W 22 A n c Try.underlying22 .i64 (h : Int) (by omega) (by omega)]
  have hs : (sizeOf (Try.prog.elem 22)).run Try.prog W = .ok 1 W := by
    rw [show Try.prog.elem 22 = 3 from rfl]
    simp [sizeOf, typeInfo, hi, hz1]
  rw [hs]
  have ha : A.map (·.add 0) = A := by cases A <;> simp [Addr.add]
  simp [Result.andThen, sliced, ha]
theorem Ints.take {w : World} {B n h : Nat} {A : Option Addr} {l : List Int} (hi : Ints w B A n l) (hh : h ≤ n) : Ints w B A h (l.take h) := by
  obtain ⟨rfl, hb, hr⟩ := hi
  refine ⟨by simp; omega, fun x hx => hb x (List.mem_of_mem_take hx), ?_⟩
  have := hr.take h
  simpa [iv, List.map_take] using this

def pick3 {α : Type} (a b c : α) : Nat → α
  | 0 => a
  | 1 => b
  | _ => c

theorem concat3 (W : World) (A1 A2 A3 : Option Addr) (n1 n2 n3 c1 c2 c3 : Nat) (l1 l2 l3 : List Int) (h1 : Ints W W.heap.size A1 n1 l1) (h2 : Ints W W.heap.size A2 n2 l2) (h3 : Ints W W.heap.size A3 n3 l3)
    (b1 : n1 ≤ 68719476736) (b2 : n2 ≤ 68719476736) (b3 : n3 ≤ 68719476736) (o : Obj) :
    Calls Try.prog 32 #[.slice (some ⟨W.heap.size + 1, 0, none⟩) 3 3] ((W.alloc o).alloc (.cells #[.slice A1 n1 c1, .slice A2 n2 c2, .slice A3 n3 c3] 22)).drew fun e w' => ∃ v, e = .returned v ∧ OwnInts w' W.heap.size v (l1 ++ l2 ++ l3) ∧ Below W.heap.size W w' := by
  have hb : Below W.heap.size W ((W.alloc o).alloc (.cells #[.slice A1 n1 c1, .slice A2 n2 c2, .slice A3 n3 c3] 22)).drew := (((Below.refl _ _).alloc (Nat.le_refl _) _).alloc (by simp) _).drew
  have hs : W.heap.size + 2 = ((W.alloc o).alloc (.cells #[.slice A1 n1 c1, .slice A2 n2 c2, .slice A3 n3 c3] 22)).drew.heap.size := by show _ = ((W.alloc o).alloc _).heap.size; simp
  refine (concat_any (W.heap.size + 1) 3 (pick3 A1 A2 A3) (pick3 n1 n2 n3) (pick3 c1 c2 c3) (pick3 l1 l2 l3) _ (by omega) (by omega) ?_ ?_ ?_).mono ?_
  · intro i hi
    rw [World.cell?_drew, World.cell?_alloc_at _ _ _ _ (by simp)]
    match i, hi with
    | 0, _ => rfl
    | 1, _ => rfl
    | 2, _ => rfl
  · intro i hi
    match i, hi with
    | 0, _ => exact (h1.below hb).more (by omega)
    | 1, _ => exact (h2.below hb).more (by omega)
    | 2, _ => exact (h3.below hb).more (by omega)
  · intro i hi
    match i, hi with
    | 0, _ => exact b1
    | 1, _ => exact b2
    | 2, _ => exact b3
  · rintro e w' ⟨v, rfl, h4, h5⟩
    refine ⟨v, rfl, ?_, hb.trans (h5.mono (by omega))⟩
    have := h4.mono (B' := W.heap.size) (by omega)
    simpa [cat, pick3] using this

/-- What Apply hands back. -/
def AppPost (w : World) (r : Option (List Int)) (e : Ending) (w' : World) : Prop :=
  ∃ v, e = .returned (.tuple #[v, .bool r.isSome]) ∧ OwnInts w' w.heap.size v (r.getD []) ∧ Below w.heap.size w w'

set_option maxRecDepth 100000 in
set_option maxHeartbeats 1000000 in
theorem apply_any (A B : Option Addr) (n m c d : Nat) (l : List Int) (ss : List Spi) (w : World) (ha : Ints w w.heap.size A n l) (hb : Spis w w.heap.size B m ss) (hn : n ≤ 1048576) (hm : m ≤ 1024) (hadd : ∀ s ∈ ss, s.add.length ≤ 1048576) :
    Calls Try.prog 17 #[.slice A n c, .slice B m d] w (AppPost w (app l ss)) := by
  have HM := Lib.hid hb.1
  have HA := Lib.hid ha
  have HB := Lib.hid hb
  have HADD := Lib.hid hadd
  clear ha hb hadd
  go_enter Try.func17, Try.ntmps17
  go_wp2_with fail
  refine (clone_any A n c l _ HA.out (by omega)).mono ?_
  rintro e w1 ⟨v, rfl, hown0, hbel0⟩
  have HO0 := Lib.hid hown0
  have HB0 := Lib.hid hbel0
  clear hown0 hbel0
  go_wp2
  go_loopw [6, 8, 13] (fun o _ i wr => ∃ (k : Nat) (r : List Int), k ≤ m ∧ i = .int .i64 k ∧ r.length ≤ 1048576 + k * 1048576 ∧ Hid (app l ss = app r (ss.drop k)) ∧ OwnInts wr w.heap.size o r ∧ Below w.heap.size w wr) (fun _ _ i _ => m - (intOf i).toNat)
  case atStart => exact ⟨0, l, Nat.zero_le _, rfl, by have := HA.out.len; omega, by simp [Hid], HO0.out, HB0.out⟩
  case round =>
    clear HO0 HB0
    obtain ⟨k, r, hk, rfl, hrl, hap, hown, hbel⟩ := hrel
    have HO := Lib.hid hown
    obtain ⟨A1, c1, e1, hc1, hc2, hints⟩ := hown.ints
    obtain ⟨len, hlen⟩ : ∃ len, r.length = len := ⟨_, rfl⟩
    have HLEN := Lib.hid hlen
    rw [hlen] at e1 hc1 hints hrl
    subst e1
    have HI := Lib.hid hints
    clear hown hlen hints
    unfold maxLen at hc2
    by_cases hlt : k < m
    · obtain ⟨ad, s, X, x, cx, rfl, hadb, hks, hs1, hs2, a0, a1, a2, hx1, hx2, hxi⟩ := HB.out.2 k hlt
      have hxl : x ≤ 1048576 := by rw [← hxi.len]; exact HADD.out s (List.mem_of_getElem? hks)
      have hcellb : ∀ i, wr.cell? (ad.add i) = w.cell? (ad.add i) := fun i => hbel.cell (by rw [add_block]; exact hadb)
      rw [← hcellb] at a0 a1 a2
      rw [← add_add'] at a1 a2
      replace a1 : wr.cell? ⟨(ad.add (k * 3)).block, (ad.add (k * 3)).off + 1, none⟩ = _ := a1
      replace a2 : wr.cell? ⟨(ad.add (k * 3)).block, (ad.add (k * 3)).off + 2, none⟩ = _ := a2
      have HXI := Lib.hid (hxi.below hbel)
      have hdrop : ss.drop k = s :: ss.drop (k + 1) := by
        have h1 : k < ss.length := by have := HM.out; omega
        rw [List.drop_eq_getElem_cons h1]
        rw [List.getElem?_eq_getElem h1] at hks
        injection hks with hks
        rw [hks]
      have HD := Lib.hid hdrop
      clear hdrop hks hxi hcellb
      obtain ⟨s0, s1, s2⟩ := s
      replace a0 : wr.cell? (ad.add (k * 3)) = some (.int .i64 s0) := a0
      replace a1 : wr.cell? ⟨(ad.add (k * 3)).block, (ad.add (k * 3)).off + 1, none⟩ = some (.int .i64 s1) := a1
      replace hs1 : -9223372036854775808 ≤ s0 ∧ s0 ≤ 9223372036854775807 := hs1
      replace hs2 : -9223372036854775808 ≤ s1 ∧ s1 ≤ 9223372036854775807 := hs2
      obtain ⟨hs11, hs12⟩ := hs1
      obtain ⟨hs21, hs22⟩ := hs2
      by_cases hbad : s0 < 0 ∨ s1 < 0 ∨ (len : Int) < s0 ∨ (len : Int) - s0 < s1
      · have HF := Lib.hid (show app l ss = none by
          rw [hap.out, HD.out]; simp only [app, app1]; rw [if_pos (by rw [HLEN.out]; exact hbad)])
        clear HD HXI
        by_cases b0 : s0 < 0
        · clear hbad
          go_wp2
          go_ret2
          exact ⟨_, by rw [HF.out]; rfl, by rw [HF.out]; exact OwnInts.nil_ _ _, hbel.alloc hbel.size _⟩
        · by_cases b1 : s1 < 0
          · clear hbad
            go_wp2
            go_ret2
            exact ⟨_, by rw [HF.out]; rfl, by rw [HF.out]; exact OwnInts.nil_ _ _, hbel.alloc hbel.size _⟩
          · by_cases b2 : (len : Int) < s0
            · clear hbad
              go_wp2
              go_ret2
              exact ⟨_, by rw [HF.out]; rfl, by rw [HF.out]; exact OwnInts.nil_ _ _, hbel.alloc hbel.size _⟩
            · have b3 : (len : Int) - s0 < s1 := by omega
              clear hbad
              go_wp2
              go_ret2
              exact ⟨_, by rw [HF.out]; rfl, by rw [HF.out]; exact OwnInts.nil_ _ _, hbel.alloc hbel.size _⟩
      · obtain ⟨p, rfl⟩ := Int.eq_ofNat_of_zero_le (show 0 ≤ s0 by omega)
        obtain ⟨dd, rfl⟩ := Int.eq_ofNat_of_zero_le (show 0 ≤ s1 by omega)
        have hpl : p ≤ len := by omega
        have hpd : p + dd ≤ len := by omega
        have HF := Lib.hid (show app l ss = app (r.take p ++ s2 ++ r.drop (p + dd)) (ss.drop (k + 1)) by
          rw [hap.out, HD.out]; simp only [app, app1]; rw [if_neg (by rw [HLEN.out]; exact hbad)]
          simp only [Int.toNat_natCast]
          rw [show ((p : Int) + (dd : Int)).toNat = p + dd by omega])
        clear hbad hap HD
        have hs1 := fun W => take_ints (A := A1) (n := len) (c := c1) (h := p) (by omega) W
        have hs2 := fun W => cut_ints (A := A1) (n := len) (c := c1) (h := p + dd) (by omega) W
        have hi1 := HI.out.take hpl
        have hi2 := HI.out.cut (h := p + dd) hc1
        obtain ⟨A2, hA2⟩ : ∃ A2, (if c1 = p + dd then A1 else A1.map (·.add (p + dd))) = A2 := ⟨_, rfl⟩
        rw [hA2] at hi2
        simp only [hA2, show ((p + dd : Nat) : Int) = (p : Int) + (dd : Int) by omega] at hs2
        obtain ⟨n2, hn2⟩ : ∃ x, len - (p + dd) = x := ⟨_, rfl⟩
        obtain ⟨c2, hc2e⟩ : ∃ x, c1 - (p + dd) = x := ⟨_, rfl⟩
        simp only [hn2, hc2e] at hs2
        rw [hn2] at hi2
        have hn2l : n2 ≤ len := by omega
        clear hA2 hn2 hc2e
        have HI1 := Lib.hid hi1
        have HI2 := Lib.hid hi2
        clear hi1 hi2
        have t0 : (0 : Int) ≤ p := by omega
        have t1 : (p : Int) ≤ len := by omega
        have t2 : (dd : Int) ≤ (len : Int) - p := by omega
        go_wp2
        have w1 : IntKind.i64.wrap ((p : Int) + (dd : Int)) = p + dd := IntWalk.i64_in _ (by omega)
        (refine wp_region_tail 13 (by kernel_rfl) (by kernel_rfl) ?_; simp only [List.take_succ_cons, List.take_zero, List.drop_succ_cons, List.drop_zero]; repeat still_step); refine wpStill_nil ?_
        clear w1
        go_wp2_with fail
        refine (concat3 wr A1 X A2 p x n2 c1 cx c2 (r.take p) s2 (r.drop (p + dd)) HI1.out (HXI.out.more hbel.size) HI2.out (by omega) (by omega) (by omega) _).mono ?_
        rintro e w2 ⟨v2, rfl, hown2, hbel2⟩
        have HO2 := Lib.hid hown2
        have HB2 := Lib.hid hbel2
        have hl2 : (r.take p ++ s2 ++ r.drop (p + dd)).length ≤ len + x := by
          have h1 := HLEN.out
          have h2 := HXI.out.len
          simp only [List.length_append, List.length_take, List.length_drop]
          omega
        clear hown2 hbel2
        go_wp2
        go_roundw
        case rel => exact ⟨k + 1, _, by omega, by go_num, by omega, HF.out, HO2.out.mono hbel.size, hbel.trans (HB2.out.mono hbel.size)⟩
        case measure => simp [intOf] <;> omega
    · have HF := Lib.hid (show app l ss = some r by
        rw [hap.out, List.drop_eq_nil_of_le (by have := HM.out; omega)]; rfl)
      go_wp2
      go_ret2
      exact ⟨_, by rw [HF.out]; rfl, by rw [HF.out]; exact HO.out, hbel⟩
end Go.Proofs.Ytfnbchbndmbjaaa
