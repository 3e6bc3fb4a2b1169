/- Reference 12: the contract of Split. -/
import Derived.Test.YtnpgnohlcphfnaaGreatDoorRCtF
namespace Go.Proofs.YtnpgnohlcphfnaaGreatDoor
open Go.RowKit
set_option linter.unusedVariables false

theorem splitP_none {l : List UInt8} (h : cutP 39 l = none) : splitP l = ([], l) := by unfold splitP; rw [h]
theorem splitP_one {l a b : List UInt8} (h : cutP 39 l = some (a, b)) (h2 : cutP 39 b = none) : splitP l = ([], l) := by unfold splitP; rw [h]; simp only [h2]
theorem splitP_two {l a b c d : List UInt8} (h : cutP 39 l = some (a, b)) (h2 : cutP 39 b = some (c, d)) : splitP l = (a, d) := by unfold splitP; rw [h]; simp only [h2]
theorem split_fin2 {w w' : World} {l a b : List UInt8} {s t : ByteArray} (h : splitP l = (a, b)) (hs : s = ba a) (ht : t = ba b) (hb : Below w.heap.size w w') : SplitPost w l (.returned (.tuple #[.string s, .string t])) w' := by
  subst hs; subst ht
  exact split_fin h hb
set_option maxRecDepth 100000 in
set_option maxHeartbeats 4000000 in
theorem rsplit_any (l : List UInt8) (w : World) (hl : l.length ≤ 1000000000) :
    Calls Tryz.prog 113 #[.string (ba l)] w (SplitPost w l) := by
  have HF1 := Lib.hid (rfind_any l 39 w hl)
  have HB := Lib.hid (Below.refl w.heap.size w)
  cases h1 : cutP 39 l with
  | none =>
    have HV := Lib.hid (splitP_none h1)
    have hv : findV 39 l = -1 := by unfold findV; rw [h1]
    rw [hv] at HF1
    clear h1 hv
    go_enter Tryz.func113, Tryz.ntmps113
    go_wp2_with fail
    refine HF1.out.mono ?_
    rintro e w2 ⟨rfl, hw⟩
    have hw2 := hw.symm
    subst hw2
    clear hw
    go_wp2
    go_ret2
    exact split_fin HV.out HB.out
  | some q =>
    obtain ⟨a, b⟩ := q
    have hv : findV 39 l = (a.length : Int) := by unfold findV; rw [h1]
    rw [hv] at HF1
    have hla := (cutP_some h1).1
    have hlen : l.length = a.length + 1 + b.length := by rw [hla, List.length_append, List.length_cons]; omega
    have HF2 := Lib.hid (rfind_any b 39 w (by omega))
    have hb1 : (l.take l.length).drop (a.length + 1) = b := by rw [List.take_length, hla, List.drop_append]; simp
    have ha1 : (l.take a.length).drop 0 = a := by rw [hla]; simp
    have HEX := Lib.hid (fun i j => ba_cut l i j)
    have hxb := HEX.out (a.length + 1) l.length
    have hxa := HEX.out 0 a.length
    rw [hb1] at hxb
    rw [ha1] at hxa
    clear hv hb1 ha1
    cases h2 : cutP 39 b with
    | none =>
      have HV := Lib.hid (splitP_one h1 h2)
      have hv : findV 39 b = -1 := by unfold findV; rw [h2]
      rw [hv] at HF2
      clear h1 h2 hv hla hxa
      obtain ⟨m, hm⟩ : ∃ m, a.length = m := ⟨_, rfl⟩
      rw [hm] at HF1 hxb hlen
      clear hm
      obtain ⟨n, hn⟩ : ∃ n, l.length = n := ⟨_, rfl⟩
      have HL := Lib.hid hn
      obtain ⟨s, hs⟩ : ∃ s, ba l = s := ⟨_, rfl⟩
      have HS := Lib.hid hs
      have HZ := Lib.hid (show s.size = n by rw [← hs, ba_size, hn])
      have hsz : (s.size : Int) = n := by rw [HZ.out]
      rw [hs]
      rw [hn] at hl hxb hlen
      clear hs hn
      rw [HS.out] at hxb
      have HXB := Lib.hid (show s.extract (m + 1) s.size = ba b by rw [HZ.out]; exact hxb)
      have hmn : (m : Int) + 1 ≤ (n : Int) := by omega
      rw [HS.out] at HF1
      clear hlen hxb
      go_enter Tryz.func113, Tryz.ntmps113
      go_wp2_with fail
      refine HF1.out.mono ?_
      rintro e w2 ⟨rfl, hw⟩
      have hw2 := hw.symm
      subst hw2
      clear hw
      go_wp2_with fail
      rw [HXB.out]
      refine HF2.out.mono ?_
      rintro e w2 ⟨rfl, hw⟩
      have hw2 := hw.symm
      subst hw2
      clear hw
      go_wp2
      go_ret2
      exact split_fin2 HV.out rfl HS.out.symm HB.out
    | some q =>
      obtain ⟨c, d⟩ := q
      have HV := Lib.hid (splitP_two h1 h2)
      have hv : findV 39 b = (c.length : Int) := by unfold findV; rw [h2]
      rw [hv] at HF2
      have hlb := (cutP_some h2).1
      have hlen2 : b.length = c.length + 1 + d.length := by rw [hlb, List.length_append, List.length_cons]; omega
      have hd1 : (l.take l.length).drop (a.length + c.length + 2) = d := by
        rw [List.take_length, show l = (a ++ [39] ++ c ++ [39]) ++ d by rw [hla, hlb]; simp, List.drop_left' (by simp; omega)]
      have hxd := HEX.out (a.length + c.length + 2) l.length
      rw [hd1] at hxd
      clear h1 h2 hv hla hlb hd1
      obtain ⟨m, hm⟩ : ∃ m, a.length = m := ⟨_, rfl⟩
      obtain ⟨k, hk⟩ : ∃ k, c.length = k := ⟨_, rfl⟩
      rw [hm] at HF1 hxb hxa hxd hlen
      rw [hk] at HF2 hxd hlen2
      clear hm hk
      obtain ⟨n, hn⟩ : ∃ n, l.length = n := ⟨_, rfl⟩
      have HL := Lib.hid hn
      obtain ⟨s, hs⟩ : ∃ s, ba l = s := ⟨_, rfl⟩
      have HS := Lib.hid hs
      have HZ := Lib.hid (show s.size = n by rw [← hs, ba_size, hn])
      have hsz : (s.size : Int) = n := by rw [HZ.out]
      rw [hs]
      rw [hn] at hl hxb hxd hlen
      clear hs hn
      rw [HS.out] at hxb hxa hxd
      have HXB := Lib.hid (show s.extract (m + 1) s.size = ba b by rw [HZ.out]; exact hxb)
      have HXA := Lib.hid hxa
      have HXD := Lib.hid (show s.extract (m + k + 2) s.size = ba d by rw [HZ.out]; exact hxd)
      have hmn : (m : Int) + 1 ≤ (n : Int) := by omega
      have hmk : (m : Int) + (k : Int) + 2 ≤ (n : Int) := by omega
      rw [HS.out] at HF1
      clear hlen hlen2 hxb hxa hxd
      go_enter Tryz.func113, Tryz.ntmps113
      go_wp2_with fail
      refine HF1.out.mono ?_
      rintro e w2 ⟨rfl, hw⟩
      have hw2 := hw.symm
      subst hw2
      clear hw
      go_wp2_with fail
      rw [HXB.out]
      refine HF2.out.mono ?_
      rintro e w2 ⟨rfl, hw⟩
      have hw2 := hw.symm
      subst hw2
      clear hw
      go_wp2
      go_region
      all_goals
        go_wp2
        go_ret2
        exact split_fin2 HV.out HXA.out HXD.out HB.out.drew
end Go.Proofs.YtnpgnohlcphfnaaGreatDoor
