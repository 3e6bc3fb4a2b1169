/- Layer 37: the walk of the law QueryReads; its head is handed to it. -/
import Derived.Test.YtomcdhmcjndioaaGreatDoorV27
namespace Go.Proofs.YtomcdhmcjndioaaGreatDoor
open Go.RowKit
set_option linter.unusedVariables false

set_option maxRecDepth 100000 in
set_option maxHeartbeats 4000000 in
theorem qreads_any (s : List UInt8) (w : World) (hs : s.length ≤ 9223372036854775807) (ht : QTabs w) (hsm : Calls Tryz.prog 5 #[] w (SmPost w true)) :
    Calls Tryz.prog 3 #[.string (ba s)] w (SmPost w true) := by
  have HSM := Lib.hid hsm
  have HT := Lib.hid ht
  unfold SmPost at HSM
  obtain ⟨ls, hls⟩ : ∃ n, s.length = n := ⟨_, rfl⟩
  obtain ⟨S, hS⟩ : ∃ x, ba s = x := ⟨_, rfl⟩
  have sS : S.size = ls := by rw [← hS, ba_size, hls]
  have siS : (S.size : Int) = ls := by rw [sS]
  have HLS := Lib.hid hls
  have HES := Lib.hid hS
  have hpl := parse_in s
  rw [hls] at hs hpl
  rw [hS]
  clear ht hsm hls hS sS
  by_cases l1 : 1200 < ls
  · have g1 : 1200 < (ls : Int) := by omega
    clear hpl
    go_enter Tryz.func3, Tryz.ntmps3
    go_wp2_with fail
    refine HSM.out.mono ?_
    rintro e w1 ⟨rfl, hb1⟩
    have HB1 := Lib.hid hb1
    clear hb1
    go_wp2
    go_ret
    exact ⟨rfl, HB1.out⟩
  · have g1 : ¬ 1200 < (ls : Int) := by omega
    have HC2 := Lib.hid (fun W (hW : QTabs W) => (by have h := qparse_any s W (by have := HLS.out; omega) hW; rw [HES.out] at h; exact h : Calls Tryz.prog 6 #[.string S] W (PaPost W (parseQ s))))
    have HC3 := Lib.hid (fun W => (by have h := rparse_any s W (by have := HLS.out; omega); rw [HES.out] at h; exact h : Calls Tryz.prog 7 #[.string S] W (PaPost W (parseQ s))))
    obtain ⟨ps, hps⟩ : ∃ x, parseQ s = x := ⟨_, rfl⟩
    rw [hps] at HC2 HC3 hpl
    clear hps
    obtain ⟨q, er, i⟩ := ps
    have hpl : i ≤ ls := hpl
    have i1 : 0 ≤ (i : Int) := by omega
    have i2 : (i : Int) ≤ (ls : Int) := by omega
    clear hpl
    go_enter Tryz.func3, Tryz.ntmps3
    go_wp2_with fail
    refine HSM.out.mono ?_
    rintro e w1 ⟨rfl, hb1⟩
    have HB1 := Lib.hid hb1
    clear hb1
    go_wp2_with fail
    refine (HC2.out w1 (HT.out.below HB1.out)).mono ?_
    rintro e w2 ⟨⟨o2, f2, t2, n2, A2, m2, c2⟩, rfl, hq2, hk2, hb2⟩
    have HB2 := Lib.hid (Below.trans HB1.out (hb2.mono (Below.size HB1.out)))
    have HQ2 := Lib.hid (show QDeep w2 (fun _ => True) ⟨o2, f2, t2, n2, (A2, m2, c2)⟩ q from QDeep.more hq2 fun _ _ => trivial)
    obtain ⟨ob2, hob2⟩ : ∃ o : Obj, .cells #[.int .i64 o2, .int .i64 f2, .string (ba t2), .int .i64 n2, .slice A2 m2 c2] 25 = o := ⟨_, rfl⟩
    have HOB2 := Lib.hid hob2
    have HA2 := Lib.hid (show Below w.heap.size w (w2.alloc ob2) from HB2.out.alloc HB2.out.size _)
    have HX2 := Lib.hid (show KBox (w2.alloc ob2) w2.heap.size ⟨o2, f2, t2, n2, (A2, m2, c2)⟩ by rw [← hob2]; exact kbox_new w2 ⟨o2, f2, t2, n2, (A2, m2, c2)⟩)
    clear hq2 hk2 hb2 hob2
    unfold RawQ.val
    dsimp only
    go_wp2_with fail
    rw [HOB2.out]
    refine (HC3.out (w2.alloc ob2)).mono ?_
    rintro e w3 ⟨⟨o3, f3, t3, n3, A3, m3, c3⟩, rfl, hq3, hk3, hb3⟩
    have HB3 := Lib.hid (Below.trans HA2.out (hb3.mono (Below.size HA2.out)))
    have hbox := (show KBox w3 w2.heap.size ⟨o2, f2, t2, n2, (A2, m2, c2)⟩ from (hb3.block _ (by simp)).trans HX2.out)
    obtain ⟨k0, k1, k2, k3, k4, kl⟩ := hbox.cells
    have hq23 := (HQ2.out.bel (show Below w2.heap.size w2 w3 from ((Below.refl w2.heap.size w2).alloc (Nat.le_refl _) ob2).trans (hb3.mono (by rw [World.size_alloc]; omega))))
    have hq33 : QDeep w3 (fun _ => True) ⟨o3, f3, t3, n3, (A3, m3, c3)⟩ q := QDeep.more hq3 fun _ _ => trivial
    have ha3 : Below w3.heap.size w3 (w3.alloc (.cells #[.int .i64 o3, .int .i64 f3, .string (ba t3), .int .i64 n3, .slice A3 m3 c3] 25)) := (Below.refl _ _).alloc (Nat.le_refl _) _
    have hsame := rqsame_any q (w3.alloc (.cells #[.int .i64 o3, .int .i64 f3, .string (ba t3), .int .i64 n3, .slice A3 m3 c3] 25)) _ _ q (hq23.bel ha3) (hq33.bel ha3)
    rw [eqQ_true.2 rfl] at hsame
    have HSAME := Lib.hid hsame
    have HA3 := Lib.hid (HB3.out.trans (ha3.mono HB3.out.size))
    clear hq3 hk3 hb3 hbox hq23 hq33 ha3 hsame
    unfold RawQ.val
    dsimp only
    go_wp2_with fail
    refine HSAME.out.mono ?_
    rintro e w4 ⟨rfl, hb4⟩
    have HB4 := Lib.hid (HA3.out.trans (hb4.mono HA3.out.size))
    clear hb4
    go_wp2
    go_ret
    exact ⟨rfl, HB4.out⟩
end Go.Proofs.YtomcdhmcjndioaaGreatDoor
