/- Reference 12: the contract of Disposition (printed by gen_rdisp.py). -/
import Derived.Test.YtnpgnohlcphfnaaGreatDoorRLst
import Derived.Test.YtnpgnohlcphfnaaGreatDoorRCtB
import Derived.Test.YtnpgnohlcphfnaaGreatDoorRCtD
import Derived.Test.YtnpgnohlcphfnaaGreatDoorM03
import Derived.Test.YtnpgnohlcphfnaaGreatDoorM15
namespace Go.Proofs.YtnpgnohlcphfnaaGreatDoor
open Go.RowKit
set_option linter.unusedVariables false

set_option maxRecDepth 100000 in
set_option maxHeartbeats 4000000 in
theorem rdisp_any (l : List UInt8) (w : World) (hl : l.length ≤ 10000000) :
    Calls Tryz.prog 13 #[.string (ba l)] w (DispPost w (dispT l)) := by
  have HOK := Lib.hid (tokRows_ok l)
  have HRA := Lib.hid (rrows_any l w (by omega))
  obtain ⟨r, rs, hrs⟩ := rows_first l
  have HD0 := Lib.hid (show ∀ f, smallP (joinP r) = f → dispT l = (if isWord f = true then f else [], paramsP rs) from fun f hf => by
    subst hf
    unfold dispT
    rw [hrs]
    rfl)
  rw [hrs] at HOK HRA
  unfold RowsPost at HRA
  have hrl := HOK.out.1 r (List.mem_cons_self ..)
  have hnl := HOK.out.2
  clear hrs
  go_enter Tryz.func13, Tryz.ntmps13
  go_wp2_with fail
  refine HRA.out.mono ?_
  rintro e w1 ⟨v1, xs, rfl, hra, hb1⟩
  obtain ⟨A1, c1, rfl, hc1, hc2, hin⟩ := hra.rows
  have HIN := Lib.hid hin
  have HB1 := Lib.hid hb1
  obtain ⟨ad, A2, c2, rfl, hbl, hcell, hc3, hc4, htk⟩ := hin.first
  have HTK := Lib.hid htk
  have HC34 := Lib.hid (And.intro hc3 hc4)
  have HC12 := Lib.hid (And.intro hc1 hc2)
  clear hra hb1 hin htk hc3 hc4
  have hl1 : (r :: rs).length = rs.length + 1 := rfl
  rw [hl1] at hc1 HIN hnl ⊢
  have HCUT := Lib.hid HIN.out.tail
  obtain ⟨m, hm⟩ : ∃ m, rs.length = m := ⟨_, rfl⟩
  rw [hm] at HCUT HIN hc1 hnl
  rw [hm]
  have HNL := Lib.hid hnl
  clear hl1 hm HC12
  go_wp2_with fail
  refine (rtext_any r A2 r.length c2 w1 HTK.out (by omega) (by omega)).mono ?_
  rintro e w2 ⟨rfl, hw2⟩
  have hw3 := hw2.symm
  subst hw3
  clear hw2
  go_wp2_with fail
  refine (rsmall_any (joinP r) w1 (by omega)).mono ?_
  rintro e w3 ⟨rfl, hb3⟩
  have HB3 := Lib.hid hb3
  clear hb3
  obtain ⟨f, hf⟩ : ∃ f, smallP (joinP r) = f := ⟨_, rfl⟩
  have hfl : f.length ≤ 1000000000 := by rw [← hf, smallP_len]; omega
  have HD := Lib.hid (HD0.out f hf)
  rw [hf]
  have HW := Lib.hid (rword_any f w3 hfl)
  clear hf
  rcases HCUT.out.one (ad := ad) hc1 with ⟨hcc, hin9⟩ | ⟨hcc, hin9⟩
  · have HIN9 := Lib.hid hin9
    subst hcc
    have hm0 : m = 0 := by omega
    subst hm0
    clear hin9 hc1
    have HLI := Lib.hid (show ∀ W, Below w3.heap.size w3 W → _ from fun W hW => rlist_any rs (some ad) 0 0 W ((HIN9.out.below (HB3.out.trans (hW.mono HB3.out.size))).more (Nat.le_trans HB3.out.size hW.size)) (by have := HNL.out; omega) (fun r hr => by have := HOK.out.1 r (List.mem_cons_of_mem _ hr); omega))
    by_cases hw : isWord f = true
    · rw [hw] at HW
      rw [if_pos hw] at HD
      clear hw
      go_wp2_with fail
      refine HW.out.mono ?_
      rintro e w4 ⟨rfl, hw4⟩
      have hw5 := hw4.symm
      subst hw5
      clear hw4
      go_wp2_with fail
      refine (HLI.out w3 (Below.refl _ _)).mono ?_
      rintro e w5 ⟨v5, rfl, ho5, hb5⟩
      have HO5 := Lib.hid (ho5.more (Nat.le_trans HB1.out.size HB3.out.size))
      have HB5 := Lib.hid (HB1.out.trans ((HB3.out.trans (hb5.mono HB3.out.size)).mono HB1.out.size))
      clear ho5 hb5
      go_wp2
      go_ret2
      exact disp_fin HD.out rfl HO5.out HB5.out
    · have hw2 : isWord f = false := by simpa using hw
      rw [hw2] at HW
      rw [if_neg hw] at HD
      clear hw hw2
      go_wp2_with fail
      refine HW.out.mono ?_
      rintro e w4 ⟨rfl, hw4⟩
      have hw5 := hw4.symm
      subst hw5
      clear hw4
      go_wp2_with fail
      refine (HLI.out w3 (Below.refl _ _)).mono ?_
      rintro e w5 ⟨v5, rfl, ho5, hb5⟩
      have HO5 := Lib.hid (ho5.more (Nat.le_trans HB1.out.size HB3.out.size))
      have HB5 := Lib.hid (HB1.out.trans ((HB3.out.trans (hb5.mono HB3.out.size)).mono HB1.out.size))
      clear ho5 hb5
      go_wp2
      go_ret2
      exact disp_fin HD.out rfl HO5.out HB5.out
  · have HIN9 := Lib.hid hin9
    clear hin9
    have HLI := Lib.hid (show ∀ W, Below w3.heap.size w3 W → _ from fun W hW => rlist_any rs (some ⟨ad.block, ad.off + 1, none⟩) m (c1 - 1) W ((HIN9.out.below (HB3.out.trans (hW.mono HB3.out.size))).more (Nat.le_trans HB3.out.size hW.size)) (by have := HNL.out; omega) (fun r hr => by have := HOK.out.1 r (List.mem_cons_of_mem _ hr); omega))
    by_cases hw : isWord f = true
    · rw [hw] at HW
      rw [if_pos hw] at HD
      clear hw
      go_wp2_with fail
      refine HW.out.mono ?_
      rintro e w4 ⟨rfl, hw4⟩
      have hw5 := hw4.symm
      subst hw5
      clear hw4
      go_wp2_with fail
      refine (HLI.out w3 (Below.refl _ _)).mono ?_
      rintro e w5 ⟨v5, rfl, ho5, hb5⟩
      have HO5 := Lib.hid (ho5.more (Nat.le_trans HB1.out.size HB3.out.size))
      have HB5 := Lib.hid (HB1.out.trans ((HB3.out.trans (hb5.mono HB3.out.size)).mono HB1.out.size))
      clear ho5 hb5
      go_wp2
      go_ret2
      exact disp_fin HD.out rfl HO5.out HB5.out
    · have hw2 : isWord f = false := by simpa using hw
      rw [hw2] at HW
      rw [if_neg hw] at HD
      clear hw hw2
      go_wp2_with fail
      refine HW.out.mono ?_
      rintro e w4 ⟨rfl, hw4⟩
      have hw5 := hw4.symm
      subst hw5
      clear hw4
      go_wp2_with fail
      refine (HLI.out w3 (Below.refl _ _)).mono ?_
      rintro e w5 ⟨v5, rfl, ho5, hb5⟩
      have HO5 := Lib.hid (ho5.more (Nat.le_trans HB1.out.size HB3.out.size))
      have HB5 := Lib.hid (HB1.out.trans ((HB3.out.trans (hb5.mono HB3.out.size)).mono HB1.out.size))
      clear ho5 hb5
      go_wp2
      go_ret2
      exact disp_fin HD.out rfl HO5.out HB5.out
end Go.Proofs.YtnpgnohlcphfnaaGreatDoor
