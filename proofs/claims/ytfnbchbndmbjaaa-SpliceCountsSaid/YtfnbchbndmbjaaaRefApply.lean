/- The reference's Apply. -/
import Derived.Test.YtfnbchbndmbjaaaApply
namespace Go.Proofs.Ytfnbchbndmbjaaa
open Go.RowKit
set_option linter.unusedVariables false

theorem OwnInts.made' {w : World} {k : Nat} (B : Nat) (hB : B ≤ w.heap.size) (hk : k = w.heap.size) : OwnInts (w.alloc (.cells #[] 3)) B (.slice (some ⟨k, 0, none⟩) 0 0) [] := by subst hk; exact OwnInts.made w B hB

set_option maxRecDepth 100000 in
set_option maxHeartbeats 1000000 in
theorem rapply_any (A B : Option Addr) (n m c d : Nat) (l : List Int) (ss : List Spi) (w : World) (ha : Ints w w.heap.size A n l) (hb : Spis w w.heap.size B m ss) (hn : n ≤ 1048576) (hm : m ≤ 1024) (hadd : ∀ s ∈ ss, s.add.length ≤ 1048576) :
    Calls Try.prog 18 #[.slice A n c, .slice B m d] w (AppPost w (app l ss)) := by
  have HM := Lib.hid hb.1
  have HA := Lib.hid ha
  have HB := Lib.hid hb
  have HADD := Lib.hid hadd
  clear ha hb hadd
  go_enter Try.func18, Try.ntmps18
  have hm0 := OwnInts.made w w.heap.size (Nat.le_refl _)
  have hmB : w.heap.size ≤ (w.alloc (.cells #[] 3)).heap.size := by simp
  have hmI : Ints (w.alloc (.cells #[] 3)) w.heap.size A n l := HA.out.below ((Below.refl _ _).alloc (Nat.le_refl _) _)
  have hmL : (([] : List Int).length + n) * 8 ≤ 140737488355328 := by simp; omega
  go_wp2_with (at_builtin; go_must (refine wpList_join hm0 hmB hmI hmL rfl (.tmp 10) (.tmp 11) 22 c rfl Try.underlying22 rfl rfl ?_); intro v w1 hown0 hg0 hat0)
  have HO0 := Lib.hid hown0
  have HB0 := Lib.hid (show Below w.heap.size w w1 from ((Below.refl _ _).alloc (Nat.le_refl _) _).grown hg0 hmB (fun k hk => by
      have e : w.heap.size = k := by simpa [Value.ownBlock] using hk
      omega))
  clear hown0 hg0 hat0 hm0 hmB hmI hmL
  go_loopw [6, 7, 8, 9] (fun o i _ _ wr => ∃ (k : Nat) (r : List Int), k ≤ m ∧ i = .int .i64 k ∧ r.length ≤ 1048576 + k * 1048576 ∧ Hid (app l ss = app r (ss.drop k)) ∧ OwnInts wr w.heap.size o r ∧ Below w.heap.size w wr) (fun _ i _ _ _ => m - (intOf i).toNat)
  case atStart => exact ⟨0, l, Nat.zero_le _, rfl, by have := HA.out.len; omega, by simp [Hid], by have := HO0.out; rwa [List.nil_append] at this, HB0.out⟩
  case round =>
    clear HO0 HB0
    obtain ⟨k, r, hk, rfl, hrl, hap, hown, hbel⟩ := hrel
    have HO := Lib.hid hown
    obtain ⟨A1, c1, e1, hc1, hc2, hints⟩ := hown.ints
    obtain ⟨len, hlen⟩ : ∃ len, r.length = len := ⟨_, rfl⟩
    have HLEN := Lib.hid hlen
    rw [hlen] at e1 hc1 hints hrl
    subst e1
    have HI := Lib.hid hints
    clear hown hlen hints
    unfold maxLen at hc2
    by_cases hlt : k < m
    · obtain ⟨ad, s, X, x, cx, rfl, hadb, hks, hs1, hs2, a0, a1, a2, hx1, hx2, hxi⟩ := HB.out.2 k hlt
      have hxl : x ≤ 1048576 := by rw [← hxi.len]; exact HADD.out s (List.mem_of_getElem? hks)
      have hcellb : ∀ i, wr.cell? (ad.add i) = w.cell? (ad.add i) := fun i => hbel.cell (by rw [add_block]; exact hadb)
      rw [← hcellb] at a0 a1 a2
      rw [← add_add'] at a1 a2
      replace a1 : wr.cell? ⟨(ad.add (k * 3)).block, (ad.add (k * 3)).off + 1, none⟩ = _ := a1
      replace a2 : wr.cell? ⟨(ad.add (k * 3)).block, (ad.add (k * 3)).off + 2, none⟩ = _ := a2
      have HXI := Lib.hid (hxi.below hbel)
      have hdrop : ss.drop k = s :: ss.drop (k + 1) := by
        have h1 : k < ss.length := by have := HM.out; omega
        rw [List.drop_eq_getElem_cons h1]
        rw [List.getElem?_eq_getElem h1] at hks
        injection hks with hks
        rw [hks]
      have HD := Lib.hid hdrop
      clear hdrop hks hxi hcellb
      obtain ⟨s0, s1, s2⟩ := s
      replace a0 : wr.cell? (ad.add (k * 3)) = some (.int .i64 s0) := a0
      replace a1 : wr.cell? ⟨(ad.add (k * 3)).block, (ad.add (k * 3)).off + 1, none⟩ = some (.int .i64 s1) := a1
      replace hs1 : -9223372036854775808 ≤ s0 ∧ s0 ≤ 9223372036854775807 := hs1
      replace hs2 : -9223372036854775808 ≤ s1 ∧ s1 ≤ 9223372036854775807 := hs2
      obtain ⟨hs11, hs12⟩ := hs1
      obtain ⟨hs21, hs22⟩ := hs2
      by_cases hbad : s0 < 0 ∨ s1 < 0 ∨ (len : Int) < s0 ∨ (len : Int) - s0 < s1
      · have HF := Lib.hid (show app l ss = none by
          rw [hap.out, HD.out]; simp only [app, app1]; rw [if_pos (by rw [HLEN.out]; exact hbad)])
        clear HD HXI
        by_cases b0 : s0 < 0
        · clear hbad
          go_wp2
          go_ret2
          exact ⟨_, by rw [HF.out]; rfl, by rw [HF.out]; exact OwnInts.nil_ _ _, hbel.alloc hbel.size _⟩
        · by_cases b1 : s1 < 0
          · clear hbad
            go_wp2
            go_ret2
            exact ⟨_, by rw [HF.out]; rfl, by rw [HF.out]; exact OwnInts.nil_ _ _, hbel.alloc hbel.size _⟩
          · by_cases b2 : (len : Int) < s0
            · clear hbad
              go_wp2
              go_ret2
              exact ⟨_, by rw [HF.out]; rfl, by rw [HF.out]; exact OwnInts.nil_ _ _, hbel.alloc hbel.size _⟩
            · have b3 : (len : Int) - s0 < s1 := by omega
              clear hbad
              go_wp2
              go_ret2
              exact ⟨_, by rw [HF.out]; rfl, by rw [HF.out]; exact OwnInts.nil_ _ _, hbel.alloc hbel.size _⟩
      · obtain ⟨p, rfl⟩ := Int.eq_ofNat_of_zero_le (show 0 ≤ s0 by omega)
        obtain ⟨dd, rfl⟩ := Int.eq_ofNat_of_zero_le (show 0 ≤ s1 by omega)
        have hpl : p ≤ len := by omega
        have hpd : p + dd ≤ len := by omega
        have HF := Lib.hid (show app l ss = app (r.take p ++ s2 ++ r.drop (p + dd)) (ss.drop (k + 1)) by
          rw [hap.out, HD.out]; simp only [app, app1]; rw [if_neg (by rw [HLEN.out]; exact hbad)]
          simp only [Int.toNat_natCast]
          rw [show ((p : Int) + (dd : Int)).toNat = p + dd by omega])
        clear hbad hap HD
        have hs1 := fun W => take_ints (A := A1) (n := len) (c := c1) (h := p) (by omega) W
        have hs2 := fun W => cut_ints (A := A1) (n := len) (c := c1) (h := p + dd) (by omega) W
        have hi1 := HI.out.take hpl
        have hi2 := HI.out.cut (h := p + dd) hc1
        obtain ⟨A2, hA2⟩ : ∃ A2, (if c1 = p + dd then A1 else A1.map (·.add (p + dd))) = A2 := ⟨_, rfl⟩
        rw [hA2] at hi2
        simp only [hA2, show ((p + dd : Nat) : Int) = (p : Int) + (dd : Int) by omega] at hs2
        obtain ⟨n2, hn2⟩ : ∃ x, len - (p + dd) = x := ⟨_, rfl⟩
        obtain ⟨c2, hc2e⟩ : ∃ x, c1 - (p + dd) = x := ⟨_, rfl⟩
        simp only [hn2, hc2e] at hs2
        rw [hn2] at hi2
        have hn2l : n2 ≤ len := by omega
        clear hA2 hn2 hc2e
        have HI1 := Lib.hid hi1
        have HI2 := Lib.hid hi2
        clear hi1 hi2
        have t0 : (0 : Int) ≤ p := by omega
        have t1 : (p : Int) ≤ len := by omega
        have t2 : (dd : Int) ≤ (len : Int) - p := by omega
        obtain ⟨W0, hW0⟩ : ∃ W0, (wr.alloc (.cells #[.int .i64 p, .int .i64 dd, .slice X x cx] 30)).alloc (.cells #[] 3) = W0 := ⟨_, rfl⟩
        have hN0 : OwnInts W0 (wr.heap.size + 1) (.slice (some ⟨wr.heap.size + 1, 0, none⟩) 0 0) [] := by rw [← hW0]; exact OwnInts.made' _ (by simp) (by simp)
        have hBW : Below wr.heap.size wr W0 := by rw [← hW0]; exact ((Below.refl _ _).alloc (Nat.le_refl _) _).alloc (by simp) _
        have hsz0 : W0.heap.size = wr.heap.size + 2 := by rw [← hW0]; simp
        have HX : Hid (∀ W', Below (wr.heap.size + 1) W0 W' → (W'.cell? ⟨wr.heap.size, 0, none⟩ = some (.int .i64 p) ∧ W'.cell? ⟨wr.heap.size, 1, none⟩ = some (.int .i64 dd) ∧ W'.cell? ⟨wr.heap.size, 2, none⟩ = some (.slice X x cx)) ∧ Ints W' w.heap.size X x s2 ∧ Ints W' wr.heap.size A2 n2 (r.drop (p + dd)) ∧ wr.heap.size + 1 ≤ W'.heap.size) := by
          intro W' hW'
          have h1 : Below wr.heap.size wr W' := hBW.trans (hW'.mono (by omega))
          have h2 : ∀ i, W'.cell? ⟨wr.heap.size, i, none⟩ = (#[Value.int .i64 p, .int .i64 dd, .slice X x cx] : Array Value)[i]? := fun i => by
            rw [hW'.cell (p := ⟨wr.heap.size, i, none⟩) (by simp), ← hW0, World.cell?_alloc_past _ _ _ (by simp), World.cell?_alloc_at _ _ _ _ rfl]
          exact ⟨⟨h2 0, h2 1, h2 2⟩, HXI.out.below (h1.mono hbel.size), HI2.out.below h1, by have := hW'.size; omega⟩
        have hB1 : wr.heap.size + 1 ≤ W0.heap.size := by omega
        have HW := Lib.hid hBW
        have hJ1 := HI1.out.below hBW
        have hL1 : (([] : List Int).length + p) * 8 ≤ 140737488355328 := by simp; omega
        have hL2 : (([] ++ r.take p).length + x) * 8 ≤ 140737488355328 := by have := HLEN.out; simp; omega
        have hL3 : (([] ++ r.take p ++ s2).length + n2) * 8 ≤ 140737488355328 := by have := HLEN.out; have h2 : s2.length = x := HXI.out.len; simp; omega
        subst hW0
        clear hBW hsz0
        go_wp2_with (first
          | (at_builtin
             refine wpList_join hN0 hB1 hJ1 hL1 rfl (.tmp 48) (.tmp 52) 22 c1 rfl Try.underlying22 rfl rfl ?_
             intro v1 w2 hown1 hg1 hat1
             have HB1 := Lib.hid ((Below.refl (wr.heap.size + 1) _).grown hg1 hB1 hN0.base)
             obtain ⟨⟨x0, x1, x2⟩, hJ2, _, hB2⟩ := HX.out _ HB1.out
             clear hg1 hat1)
          | (at_builtin
             refine wpList_join hown1 hB2 hJ2 hL2 rfl (.tmp 54) (.tmp 56) 22 cx rfl Try.underlying22 rfl rfl ?_
             intro v2 w3 hown2 hg2 hat2
             have HB2 := Lib.hid (HB1.out.grown hg2 hB2 hown1.base)
             obtain ⟨⟨y0, y1, y2⟩, _, hJ3, hB3⟩ := HX.out _ HB2.out
             clear hg2 hat2)
          | (at_builtin
             refine wpList_join hown2 hB3 hJ3 hL3 rfl (.tmp 58) (.tmp 65) 22 c2 rfl Try.underlying22 rfl rfl ?_
             intro v3 w4 hown3 hg3 hat3
             have HB3 := Lib.hid (HB2.out.grown hg3 hB3 hown2.base)
             clear hg3 hat3))
        have hl2 : (r.take p ++ s2 ++ r.drop (p + dd)).length ≤ len + x := by
          have h1 := HLEN.out
          have h2 : s2.length = x := HXI.out.len
          simp only [List.length_append, List.length_take, List.length_drop]
          omega
        go_roundw
        case rel => exact ⟨k + 1, _, by omega, by go_num, by omega, HF.out, by have := hown3.mono (B' := w.heap.size) (by have := hbel.size; omega); rwa [List.nil_append] at this, hbel.trans ((HW.out.trans (HB3.out.mono (by omega))).mono hbel.size)⟩
        case measure => simp [intOf] <;> omega
    · have HF := Lib.hid (show app l ss = some r by
        rw [hap.out, List.drop_eq_nil_of_le (by have := HM.out; omega)]; rfl)
      go_wp2
      go_ret2
      exact ⟨_, by rw [HF.out]; rfl, by rw [HF.out]; exact HO.out, hbel⟩
end Go.Proofs.Ytfnbchbndmbjaaa
