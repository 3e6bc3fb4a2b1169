/- Layer 12: the contract of list (printed by gen_list.py). Layer 12: the contract of rows. -/
import Derived.IntWalk
import Derived.Deep.RegionLaw
import Derived.Test.YtnpgnohlcphfnaaGreatDoorM13
import Derived.Test.YtnpgnohlcphfnaaGreatDoorM11
import Derived.Test.YtnpgnohlcphfnaaGreatDoorM12
section
namespace Go.Proofs.YtnpgnohlcphfnaaGreatDoor
open Go.RowKit
set_option linter.unusedVariables false

theorem seen_bool (ones : List One1) (x : List UInt8) : (seenF ones x).getD (.bool false) = .bool (decide (x ∈ namesP ones)) := by
  unfold seenF
  by_cases h : x ∈ namesP ones
  · rw [if_pos h, decide_eq_true h]; rfl
  · rw [if_neg h, decide_eq_false h]; rfl
theorem onesP_take {rs : List (List Tok)} {k : Nat} (hk : k < rs.length) : onesP (rs.take (k + 1)) = onesP (rs.take k) ++ (if (pairP rs[k]).1 = [] then [] else [⟨whereP (pairP rs[k]).1, (pairP rs[k]).2⟩]) := by
  rw [List.take_succ_eq_append_getElem hk, onesP_snoc]
/-- The state of the second loop. -/
structure L2St (w w3 : World) (f : List UInt8 → Option (List UInt8 × List UInt8)) (ns : List (List UInt8)) (k : Nat) (v : Value) (wr : World) : Prop where
  own : OwnPars wr w3.heap.size v ((ns.take k).filterMap f)
  bel : Below w3.heap.size w3 wr
/-- The state of the first loop. -/
def L1St (w : World) (rs : List (List Tok)) (k : Nat) (v : Value) (wr : World) : Prop :=
  ∃ c, c ≤ 3 * k ∧ LSt w (onesP (rs.take k)) (onesP (rs.take k)) (onesP (rs.take k)) c v (namesP (onesP (rs.take k))) wr
/-- A spot in a box. -/
def BoxAt (W : World) (b : Nat) (nm : List UInt8) (sec : Int) (wd : Bool) : Prop :=
  W.cell? ⟨b, 0, none⟩ = some (.string (ba nm)) ∧ W.cell? ⟨b, 1, none⟩ = some (.int .i64 sec) ∧ W.cell? ⟨b, 2, none⟩ = some (.bool wd)
theorem BoxAt.block {W W' : World} {b : Nat} {nm : List UInt8} {sec : Int} {wd : Bool} (h : BoxAt W b nm sec wd) (hb : W'.heap[b]? = W.heap[b]?) : BoxAt W' b nm sec wd :=
  ⟨(World.cell?_of_block (a := ⟨b, 0, none⟩) hb).trans h.1, (World.cell?_of_block (a := ⟨b, 1, none⟩) hb).trans h.2.1, (World.cell?_of_block (a := ⟨b, 2, none⟩) hb).trans h.2.2⟩
theorem BoxAt.new (W : World) (nm : List UInt8) (sec : Int) (wd : Bool) (t : TypeId) : BoxAt (W.alloc (.cells #[.string (ba nm), .int .i64 sec, .bool wd] t)) W.heap.size nm sec wd := by
  refine ⟨?_, ?_, ?_⟩ <;> simp
theorem maps_new (w : World) : LSt w [] [] [] 0 (.slice none 0 0) [] (((w.alloc (.map #[] 0)).alloc (.map #[] 0)).alloc (.map #[] 0)) := by
  have h1 := MapL.made spotK w
  have h2 := MapL.made spotK (w.alloc (.map #[] 0))
  have h3 := MapL.made strK ((w.alloc (.map #[] 0)).alloc (.map #[] 0))
  have b1 : ∀ (W : World) (o : Obj), Below W.heap.size W (W.alloc o) := fun W o => (Below.refl _ _).alloc (Nat.le_refl _) o
  have s1 : (w.alloc (.map #[] 0)).heap.size = w.heap.size + 1 := by simp
  have s2 : ((w.alloc (.map #[] 0)).alloc (.map #[] 0)).heap.size = w.heap.size + 2 := by simp
  rw [s1] at h2
  rw [s2] at h3
  refine ⟨(((h1.below (b1 _ _)).below (b1 _ _)).congr fun x _ => rfl), ((h2.below (b1 _ _)).congr fun x _ => ?_), h3.congr fun x _ => rfl, OwnStrs.nil_ _ _, ((b1 _ _).trans ((b1 _ _).mono (by simp))).trans ((b1 _ _).mono (by simp; omega)), by simp⟩
  show (if x.wide = false ∧ 0 ≤ x.section_ then none else none) = none
  split <;> rfl
set_option maxRecDepth 100000 in
set_option maxHeartbeats 4000000 in
theorem list_any (rs : List (List Tok)) (A : Option Addr) (n c : Nat) (w : World) (hR : RowsIn w w.heap.size A n rs) (hn : n ≤ 1000000000) (hj : ∀ r ∈ rs, (joinP r).length ≤ 10000000 ∧ r.length ≤ 1000000000) (hT : Tabs w) :
    Calls Tryz.prog 34 #[.slice A n c] w (ListPost w (paramsP rs)) := by
  have HT := Lib.hid hT
  have HR := Lib.hid hR
  have HJ := Lib.hid hj
  have HN := Lib.hid hR.len
  have HM0 := Lib.hid (maps_new w)
  have HOK := Lib.hid (onesP_ok (fun r h => (hj r h).1))
  have HOL := Lib.hid (onesP_len rs)
  have hmm := @run_makeMap Tryz.prog
  clear hT hR hj
  go_enter Tryz.func34, Tryz.ntmps34
  go_wp2
  clear hmm
  go_loopw [5, 27] (fun v i wr => ∃ k : Nat, k ≤ n ∧ i = .int .i64 (k : Int) ∧ Hid (L1St w rs k v wr)) (fun _ i _ => n - (intOf i).toNat)
  case atStart => exact ⟨0, Nat.zero_le _, rfl, Lib.hid ⟨0, Nat.zero_le _, HM0.out⟩⟩
  case round =>
    obtain ⟨k, hk, rfl, HI⟩ := hrel
    by_cases hlt : k < n
    · have hk2 : (k : Int) < n := by omega
      have hkl : k < rs.length := by rw [HN.out]; exact hlt
      obtain ⟨c0, hc0, hst⟩ := HI.out
      have hsz := hst.bel.size
      obtain ⟨ad, A', c', rfl, hbl, hcell, hcl, hcm, htk⟩ := HR.out.at_ hkl
      have hcell2 := (hst.bel.cell (p := ad.add k) (by rw [add_block]; exact hbl)).trans hcell
      have htk2 := (htk.below hst.bel).more hsz
      have HOT := Lib.hid (onesP_take hkl)
      have hrj := HJ.out _ (List.getElem_mem hkl)
      have hpl := pairP_len rs[k]
      obtain ⟨r, hr⟩ : ∃ r, rs[k] = r := ⟨_, rfl⟩
      rw [hr] at hcell2 hcl htk2 HOT hrj hpl
      have HPA := Lib.hid (pair_any r A' r.length c' wr htk2 hrj.2 hcl hcm (by omega) (HT.out.below hst.bel))
      obtain ⟨O, hO⟩ : ∃ O, onesP (rs.take k) = O := ⟨_, rfl⟩
      rw [hO] at hst HOT
      have HST := Lib.hid hst
      have HOLK := Lib.hid (show O.length ≤ 1000000000 by rw [← hO]; have := onesP_len (rs.take k); rw [List.length_take] at this; omega)
      have HC0 := Lib.hid hc0
      unfold PairPost at HPA
      obtain ⟨⟨q1, q2⟩, hq⟩ : ∃ q, pairP r = q := ⟨_, rfl⟩
      rw [hq] at HPA HOT hpl
      have hql1 : q1.length ≤ 10000000 := by have h1 : q1.length ≤ (joinP r).length := hpl.1; omega
      have hql2 : q2.length ≤ 10000000 := by have h1 : q2.length ≤ (joinP r).length := hpl.2; omega
      have HQ1 := Lib.hid hql1
      have HQ2 := Lib.hid hql2
      clear HI hst hr hq hcell htk htk2 hrj hpl hcl hcm hbl hkl hql1 hql2 hO hc0
      by_cases hemp : q1 = []
      · subst hemp
        have HO2 := Lib.hid (show onesP (rs.take (k + 1)) = O by rw [HOT.out, if_pos rfl, List.append_nil])
        have g2 : ((ba ([] : List UInt8)).toList == []) = true := by rw [ba_toList]; rfl
        have g3 : (ba ([] : List UInt8)).toList = [] := by rw [ba_toList]
        go_wp2_with fail
        refine HPA.out.mono ?_
        rintro e w1 ⟨rfl, hb1⟩
        have HS1 := Lib.hid (HST.out.below hb1)
        clear hb1
        go_wp2
        go_roundw
        case rel => exact ⟨k + 1, by omega, by go_num, Lib.hid ⟨c0, by have := HC0.out; omega, by rw [HO2.out]; exact HS1.out⟩⟩
        case measure => simp [intOf] <;> omega
      · have HO2 := Lib.hid (show onesP (rs.take (k + 1)) = O ++ [⟨whereP q1, q2⟩] by rw [HOT.out, if_neg hemp])
        have g2 : ((ba q1).toList == []) = false := by rw [ba_toList]; simpa using hemp
        have g3 : ¬ (ba q1).toList = [] := by rw [ba_toList]; exact hemp
        have HWA := Lib.hid (fun W h => where_any q1 W (by have := HQ1.out; omega) h)
        have hwl := whereP_len q1
        have hws := whereP_sec q1
        unfold WherePost at HWA
        obtain ⟨⟨nm, sec, wd⟩, hwp⟩ : ∃ q, whereP q1 = q := ⟨_, rfl⟩
        simp only [hwp, spotV] at HWA
        rw [hwp] at HO2 hwl hws
        have hs0 : -1 ≤ sec := hws.1
        have hs1 : sec ≤ 63 := hws.2
        have HNM := Lib.hid (show nm.length ≤ 10000000 by have h1 : nm.length ≤ q1.length := hwl; have := HQ1.out; omega)
        have HSB := Lib.hid (And.intro hs0 hs1)
        clear hemp hwp hwl hws hs0 hs1
        go_wp2_with fail
        refine HPA.out.mono ?_
        rintro e w1 ⟨rfl, hb1⟩
        have HS1 := Lib.hid (HST.out.below hb1)
        clear hb1
        go_wp2_with fail
        refine (HWA.out w1 (HT.out.below HS1.out.bel)).mono ?_
        rintro e w2 ⟨rfl, hb2⟩
        have HS2 := Lib.hid (HS1.out.below hb2)
        clear hb2
        have HX := Lib.hid (HS2.out.below ((Below.refl _ _).alloc (Nat.le_refl _) (.cells #[.string (ba nm), .int .i64 sec, .bool wd] 94)))
        have HBX1 := Lib.hid (BoxAt.new w2 nm sec wd 94)
        have hl1 := HX.out.par.look_ok Tryz.underlying87 (zero_str (w2.alloc (.cells #[.string (ba nm), .int .i64 sec, .bool wd] 94))) (x := ⟨nm, sec, wd⟩) (fits_spot (by have := HNM.out; omega) HSB.out.1 HSB.out.2)
        unfold spotK at hl1
        simp only [spotV] at hl1
        cases hP : parF O ⟨nm, sec, wd⟩ with
        | some u =>
          rw [hP] at hl1
          have H2 := Lib.hid (HX.out.parKeep (o := ⟨⟨nm, sec, wd⟩, q2⟩) hP)
          have HBX2 := HBX1
          have HZ2 := Lib.hid (show w2.heap.size < (w2.alloc (.cells #[.string (ba nm), .int .i64 sec, .bool wd] 94)).heap.size by simp)
          clear hP
          have H3 := Lib.hid (H2.out.below ((Below.refl _ _).alloc (Nat.le_refl _) (.cells #[.string (ba nm), .int .i64 sec, .bool false] 94)))
          have hz3 : w2.heap.size < ((w2.alloc (.cells #[.string (ba nm), .int .i64 sec, .bool wd] 94)).alloc (.cells #[.string (ba nm), .int .i64 sec, .bool false] 94)).heap.size := by have := HZ2.out; simp at this ⊢; omega
          have HZ3 := Lib.hid hz3
          clear hz3
          have HBX3 := Lib.hid (HBX2.out.block (heap_alloc_old (w2.alloc (.cells #[.string (ba nm), .int .i64 sec, .bool wd] 94)) (.cells #[.string (ba nm), .int .i64 sec, .bool false] 94) HZ2.out))
          obtain ⟨x20, x21, x22⟩ := HBX2.out
          obtain ⟨x30, x31, x32⟩ := HBX3.out
          by_cases hS : 0 ≤ sec
          · have hl2 := H3.out.fir.look_ok Tryz.underlying88 (zero_bool ((w2.alloc (.cells #[.string (ba nm), .int .i64 sec, .bool wd] 94)).alloc (.cells #[.string (ba nm), .int .i64 sec, .bool false] 94))) (x := ⟨nm, sec, false⟩) (fits_spot (by have := HNM.out; omega) HSB.out.1 HSB.out.2)
            unfold spotK at hl2
            simp only [spotV] at hl2
            cases hF : firF O ⟨nm, sec, false⟩ with
            | some u =>
              rw [hF] at hl2
              have H4 := Lib.hid (H3.out.firKeep (o := ⟨⟨nm, sec, wd⟩, q2⟩) hF)
              have HBX4 := HBX3
              have HZ4 := HZ3
              clear hF
              have hl3 := H4.out.seen.look Tryz.underlying90 (zero_bool ((w2.alloc (.cells #[.string (ba nm), .int .i64 sec, .bool wd] 94)).alloc (.cells #[.string (ba nm), .int .i64 sec, .bool false] 94))) (x := nm) (by show nm.length ≤ maxLen; have := HNM.out; simp only [maxLen]; omega)
              rw [seen_bool] at hl3
              unfold strK at hl3
              obtain ⟨x40, x41, x42⟩ := HBX4.out
              by_cases hN : nm ∈ namesP O
              · rw [decide_eq_true hN] at hl3
                have H5 := Lib.hid (H4.out.seenKeep (o := ⟨⟨nm, sec, wd⟩, q2⟩) hN)
                have HNS := Lib.hid (show namesP (O ++ [⟨⟨nm, sec, wd⟩, q2⟩]) = namesP O by rw [namesP_snoc, if_pos hN])
                clear hN
                go_wp2
                go_roundw
                case rel => exact ⟨k + 1, by omega, by go_num, Lib.hid ⟨c0, by have := HC0.out; omega, by rw [HO2.out, HNS.out]; exact H5.out⟩⟩
                case measure => simp [intOf] <;> omega
              · rw [decide_eq_false hN] at hl3
                obtain ⟨W5, hr5, hs5, hg5⟩ := H4.out.seenPut (o := ⟨⟨nm, sec, wd⟩, q2⟩) hN (by have := HC0.out; simp only [maxLen]; omega) (by show nm.length ≤ maxLen; have := HNM.out; simp only [maxLen]; omega)
                have hr5b : (Instr.mapUpdate 90 (.map (some (w.heap.size + 2))) (.string (ba nm)) (.bool true)).run Tryz.prog ((w2.alloc (.cells #[.string (ba nm), .int .i64 sec, .bool wd] 94)).alloc (.cells #[.string (ba nm), .int .i64 sec, .bool false] 94)) = .ok () W5 := hr5
                have HBX5 := Lib.hid (HBX4.out.block (hg5.block w2.heap.size (by exact HZ4.out) (by have := HS2.out.size; simp; omega)))
                obtain ⟨x50, x51, x52⟩ := HBX5.out
                have H5 := Lib.hid hs5
                have HNS := Lib.hid (show namesP (O ++ [⟨⟨nm, sec, wd⟩, q2⟩]) = namesP O ++ [nm] by rw [namesP_snoc, if_neg hN])
                have HNL := Lib.hid (show (namesP O).length < 1099511627776 by have h1 := namesP_len O []; have h2 := HOLK.out; unfold namesP; simp only [List.length_nil] at h1; omega)
                clear hN hr5 hs5 hg5
                go_wp2_with (at_builtin; go_must (refine wpList_pushStr (W := W5) H5.out.own H5.out.size HNL.out rfl (.tmp 79) (.tmp 82) 89 1 rfl Tryz.underlying89 rfl (by show Value.slice (some ⟨W5.heap.size, 0, none⟩) 1 1 = _; simp) ?_); intro v6 w6 h1 h2 h3; (have H6 := Lib.hid (H5.out.push h1 h2); clear h1 h2 h3))
                go_roundw
                case rel => exact ⟨k + 1, by omega, by go_num, Lib.hid ⟨c0 + 1, by have := HC0.out; omega, by rw [HO2.out, HNS.out]; exact H6.out⟩⟩
                case measure => simp [intOf] <;> omega

            | none =>
              rw [hF] at hl2
              obtain ⟨W4, hr4, hs4, hg4⟩ := H3.out.firPut (o := ⟨⟨nm, sec, wd⟩, q2⟩) hF hS (by have := HC0.out; simp only [maxLen]; omega) (fits_spot (by have := HNM.out; show nm.length ≤ _; omega) HSB.out.1 HSB.out.2)
              have hr4b : (Instr.mapUpdate 88 (.map (some (w.heap.size + 1))) (.agg #[.string (ba nm), .int .i64 sec, .bool false]) (.bool wd)).run Tryz.prog ((w2.alloc (.cells #[.string (ba nm), .int .i64 sec, .bool wd] 94)).alloc (.cells #[.string (ba nm), .int .i64 sec, .bool false] 94)) = .ok () W4 := hr4
              have HBX4 := Lib.hid (HBX3.out.block (hg4.block w2.heap.size HZ3.out (by have := HS2.out.size; simp; omega)))
              have HZ4 := Lib.hid (show w2.heap.size < W4.heap.size from Nat.lt_of_lt_of_le HZ3.out hg4.size)
              have H4 := Lib.hid hs4
              clear hF hr4 hs4 hg4
              have hl3 := H4.out.seen.look Tryz.underlying90 (zero_bool W4) (x := nm) (by show nm.length ≤ maxLen; have := HNM.out; simp only [maxLen]; omega)
              rw [seen_bool] at hl3
              unfold strK at hl3
              obtain ⟨x40, x41, x42⟩ := HBX4.out
              by_cases hN : nm ∈ namesP O
              · rw [decide_eq_true hN] at hl3
                have H5 := Lib.hid (H4.out.seenKeep (o := ⟨⟨nm, sec, wd⟩, q2⟩) hN)
                have HNS := Lib.hid (show namesP (O ++ [⟨⟨nm, sec, wd⟩, q2⟩]) = namesP O by rw [namesP_snoc, if_pos hN])
                clear hN
                go_wp2
                go_roundw
                case rel => exact ⟨k + 1, by omega, by go_num, Lib.hid ⟨c0 + 1, by have := HC0.out; omega, by rw [HO2.out, HNS.out]; exact H5.out⟩⟩
                case measure => simp [intOf] <;> omega
              · rw [decide_eq_false hN] at hl3
                obtain ⟨W5, hr5, hs5, hg5⟩ := H4.out.seenPut (o := ⟨⟨nm, sec, wd⟩, q2⟩) hN (by have := HC0.out; simp only [maxLen]; omega) (by show nm.length ≤ maxLen; have := HNM.out; simp only [maxLen]; omega)
                have hr5b : (Instr.mapUpdate 90 (.map (some (w.heap.size + 2))) (.string (ba nm)) (.bool true)).run Tryz.prog W4 = .ok () W5 := hr5
                have HBX5 := Lib.hid (HBX4.out.block (hg5.block w2.heap.size (by exact HZ4.out) (by have := HS2.out.size; simp; omega)))
                obtain ⟨x50, x51, x52⟩ := HBX5.out
                have H5 := Lib.hid hs5
                have HNS := Lib.hid (show namesP (O ++ [⟨⟨nm, sec, wd⟩, q2⟩]) = namesP O ++ [nm] by rw [namesP_snoc, if_neg hN])
                have HNL := Lib.hid (show (namesP O).length < 1099511627776 by have h1 := namesP_len O []; have h2 := HOLK.out; unfold namesP; simp only [List.length_nil] at h1; omega)
                clear hN hr5 hs5 hg5
                go_wp2_with (at_builtin; go_must (refine wpList_pushStr (W := W5) H5.out.own H5.out.size HNL.out rfl (.tmp 79) (.tmp 82) 89 1 rfl Tryz.underlying89 rfl (by show Value.slice (some ⟨W5.heap.size, 0, none⟩) 1 1 = _; simp) ?_); intro v6 w6 h1 h2 h3; (have H6 := Lib.hid (H5.out.push h1 h2); clear h1 h2 h3))
                go_roundw
                case rel => exact ⟨k + 1, by omega, by go_num, Lib.hid ⟨c0 + 1 + 1, by have := HC0.out; omega, by rw [HO2.out, HNS.out]; exact H6.out⟩⟩
                case measure => simp [intOf] <;> omega

          · have H4 := Lib.hid (H3.out.firSkip (o := ⟨⟨nm, sec, wd⟩, q2⟩) hS)
            have HBX4 := HBX3
            have HZ4 := HZ3
            have hl3 := H4.out.seen.look Tryz.underlying90 (zero_bool ((w2.alloc (.cells #[.string (ba nm), .int .i64 sec, .bool wd] 94)).alloc (.cells #[.string (ba nm), .int .i64 sec, .bool false] 94))) (x := nm) (by show nm.length ≤ maxLen; have := HNM.out; simp only [maxLen]; omega)
            rw [seen_bool] at hl3
            unfold strK at hl3
            obtain ⟨x40, x41, x42⟩ := HBX4.out
            by_cases hN : nm ∈ namesP O
            · rw [decide_eq_true hN] at hl3
              have H5 := Lib.hid (H4.out.seenKeep (o := ⟨⟨nm, sec, wd⟩, q2⟩) hN)
              have HNS := Lib.hid (show namesP (O ++ [⟨⟨nm, sec, wd⟩, q2⟩]) = namesP O by rw [namesP_snoc, if_pos hN])
              clear hN
              go_wp2
              go_roundw
              case rel => exact ⟨k + 1, by omega, by go_num, Lib.hid ⟨c0, by have := HC0.out; omega, by rw [HO2.out, HNS.out]; exact H5.out⟩⟩
              case measure => simp [intOf] <;> omega
            · rw [decide_eq_false hN] at hl3
              obtain ⟨W5, hr5, hs5, hg5⟩ := H4.out.seenPut (o := ⟨⟨nm, sec, wd⟩, q2⟩) hN (by have := HC0.out; simp only [maxLen]; omega) (by show nm.length ≤ maxLen; have := HNM.out; simp only [maxLen]; omega)
              have hr5b : (Instr.mapUpdate 90 (.map (some (w.heap.size + 2))) (.string (ba nm)) (.bool true)).run Tryz.prog ((w2.alloc (.cells #[.string (ba nm), .int .i64 sec, .bool wd] 94)).alloc (.cells #[.string (ba nm), .int .i64 sec, .bool false] 94)) = .ok () W5 := hr5
              have HBX5 := Lib.hid (HBX4.out.block (hg5.block w2.heap.size (by exact HZ4.out) (by have := HS2.out.size; simp; omega)))
              obtain ⟨x50, x51, x52⟩ := HBX5.out
              have H5 := Lib.hid hs5
              have HNS := Lib.hid (show namesP (O ++ [⟨⟨nm, sec, wd⟩, q2⟩]) = namesP O ++ [nm] by rw [namesP_snoc, if_neg hN])
              have HNL := Lib.hid (show (namesP O).length < 1099511627776 by have h1 := namesP_len O []; have h2 := HOLK.out; unfold namesP; simp only [List.length_nil] at h1; omega)
              clear hN hr5 hs5 hg5
              go_wp2_with (at_builtin; go_must (refine wpList_pushStr (W := W5) H5.out.own H5.out.size HNL.out rfl (.tmp 79) (.tmp 82) 89 1 rfl Tryz.underlying89 rfl (by show Value.slice (some ⟨W5.heap.size, 0, none⟩) 1 1 = _; simp) ?_); intro v6 w6 h1 h2 h3; (have H6 := Lib.hid (H5.out.push h1 h2); clear h1 h2 h3))
              go_roundw
              case rel => exact ⟨k + 1, by omega, by go_num, Lib.hid ⟨c0 + 1, by have := HC0.out; omega, by rw [HO2.out, HNS.out]; exact H6.out⟩⟩
              case measure => simp [intOf] <;> omega


        | none =>
          rw [hP] at hl1
          obtain ⟨W2, hr2, hs2, hg2⟩ := HX.out.parPut (o := ⟨⟨nm, sec, wd⟩, q2⟩) hP (by have := HC0.out; simp only [maxLen]; omega) (fits_spot (by have := HNM.out; show nm.length ≤ _; omega) HSB.out.1 HSB.out.2)
          have hr2b : (Instr.mapUpdate 87 (.map (some w.heap.size)) (.agg #[.string (ba nm), .int .i64 sec, .bool wd]) (.string (ba q2))).run Tryz.prog (w2.alloc (.cells #[.string (ba nm), .int .i64 sec, .bool wd] 94)) = .ok () W2 := hr2
          have HBX2 := Lib.hid (HBX1.out.block (hg2.block w2.heap.size (by simp) (by have := HS2.out.size; simp; omega)))
          have HZ2 := Lib.hid (show w2.heap.size < W2.heap.size from by have := hg2.size; simp at this; omega)
          have H2 := Lib.hid hs2
          clear hP hr2 hs2 hg2
          have H3 := Lib.hid (H2.out.below ((Below.refl _ _).alloc (Nat.le_refl _) (.cells #[.string (ba nm), .int .i64 sec, .bool false] 94)))
          have hz3 : w2.heap.size < (W2.alloc (.cells #[.string (ba nm), .int .i64 sec, .bool false] 94)).heap.size := by have := HZ2.out; simp at this ⊢; omega
          have HZ3 := Lib.hid hz3
          clear hz3
          have HBX3 := Lib.hid (HBX2.out.block (heap_alloc_old W2 (.cells #[.string (ba nm), .int .i64 sec, .bool false] 94) HZ2.out))
          obtain ⟨x20, x21, x22⟩ := HBX2.out
          obtain ⟨x30, x31, x32⟩ := HBX3.out
          by_cases hS : 0 ≤ sec
          · have hl2 := H3.out.fir.look_ok Tryz.underlying88 (zero_bool (W2.alloc (.cells #[.string (ba nm), .int .i64 sec, .bool false] 94))) (x := ⟨nm, sec, false⟩) (fits_spot (by have := HNM.out; omega) HSB.out.1 HSB.out.2)
            unfold spotK at hl2
            simp only [spotV] at hl2
            cases hF : firF O ⟨nm, sec, false⟩ with
            | some u =>
              rw [hF] at hl2
              have H4 := Lib.hid (H3.out.firKeep (o := ⟨⟨nm, sec, wd⟩, q2⟩) hF)
              have HBX4 := HBX3
              have HZ4 := HZ3
              clear hF
              have hl3 := H4.out.seen.look Tryz.underlying90 (zero_bool (W2.alloc (.cells #[.string (ba nm), .int .i64 sec, .bool false] 94))) (x := nm) (by show nm.length ≤ maxLen; have := HNM.out; simp only [maxLen]; omega)
              rw [seen_bool] at hl3
              unfold strK at hl3
              obtain ⟨x40, x41, x42⟩ := HBX4.out
              by_cases hN : nm ∈ namesP O
              · rw [decide_eq_true hN] at hl3
                have H5 := Lib.hid (H4.out.seenKeep (o := ⟨⟨nm, sec, wd⟩, q2⟩) hN)
                have HNS := Lib.hid (show namesP (O ++ [⟨⟨nm, sec, wd⟩, q2⟩]) = namesP O by rw [namesP_snoc, if_pos hN])
                clear hN
                go_wp2
                go_roundw
                case rel => exact ⟨k + 1, by omega, by go_num, Lib.hid ⟨c0 + 1, by have := HC0.out; omega, by rw [HO2.out, HNS.out]; exact H5.out⟩⟩
                case measure => simp [intOf] <;> omega
              · rw [decide_eq_false hN] at hl3
                obtain ⟨W5, hr5, hs5, hg5⟩ := H4.out.seenPut (o := ⟨⟨nm, sec, wd⟩, q2⟩) hN (by have := HC0.out; simp only [maxLen]; omega) (by show nm.length ≤ maxLen; have := HNM.out; simp only [maxLen]; omega)
                have hr5b : (Instr.mapUpdate 90 (.map (some (w.heap.size + 2))) (.string (ba nm)) (.bool true)).run Tryz.prog (W2.alloc (.cells #[.string (ba nm), .int .i64 sec, .bool false] 94)) = .ok () W5 := hr5
                have HBX5 := Lib.hid (HBX4.out.block (hg5.block w2.heap.size (by exact HZ4.out) (by have := HS2.out.size; simp; omega)))
                obtain ⟨x50, x51, x52⟩ := HBX5.out
                have H5 := Lib.hid hs5
                have HNS := Lib.hid (show namesP (O ++ [⟨⟨nm, sec, wd⟩, q2⟩]) = namesP O ++ [nm] by rw [namesP_snoc, if_neg hN])
                have HNL := Lib.hid (show (namesP O).length < 1099511627776 by have h1 := namesP_len O []; have h2 := HOLK.out; unfold namesP; simp only [List.length_nil] at h1; omega)
                clear hN hr5 hs5 hg5
                go_wp2_with (at_builtin; go_must (refine wpList_pushStr (W := W5) H5.out.own H5.out.size HNL.out rfl (.tmp 79) (.tmp 82) 89 1 rfl Tryz.underlying89 rfl (by show Value.slice (some ⟨W5.heap.size, 0, none⟩) 1 1 = _; simp) ?_); intro v6 w6 h1 h2 h3; (have H6 := Lib.hid (H5.out.push h1 h2); clear h1 h2 h3))
                go_roundw
                case rel => exact ⟨k + 1, by omega, by go_num, Lib.hid ⟨c0 + 1 + 1, by have := HC0.out; omega, by rw [HO2.out, HNS.out]; exact H6.out⟩⟩
                case measure => simp [intOf] <;> omega

            | none =>
              rw [hF] at hl2
              obtain ⟨W4, hr4, hs4, hg4⟩ := H3.out.firPut (o := ⟨⟨nm, sec, wd⟩, q2⟩) hF hS (by have := HC0.out; simp only [maxLen]; omega) (fits_spot (by have := HNM.out; show nm.length ≤ _; omega) HSB.out.1 HSB.out.2)
              have hr4b : (Instr.mapUpdate 88 (.map (some (w.heap.size + 1))) (.agg #[.string (ba nm), .int .i64 sec, .bool false]) (.bool wd)).run Tryz.prog (W2.alloc (.cells #[.string (ba nm), .int .i64 sec, .bool false] 94)) = .ok () W4 := hr4
              have HBX4 := Lib.hid (HBX3.out.block (hg4.block w2.heap.size HZ3.out (by have := HS2.out.size; simp; omega)))
              have HZ4 := Lib.hid (show w2.heap.size < W4.heap.size from Nat.lt_of_lt_of_le HZ3.out hg4.size)
              have H4 := Lib.hid hs4
              clear hF hr4 hs4 hg4
              have hl3 := H4.out.seen.look Tryz.underlying90 (zero_bool W4) (x := nm) (by show nm.length ≤ maxLen; have := HNM.out; simp only [maxLen]; omega)
              rw [seen_bool] at hl3
              unfold strK at hl3
              obtain ⟨x40, x41, x42⟩ := HBX4.out
              by_cases hN : nm ∈ namesP O
              · rw [decide_eq_true hN] at hl3
                have H5 := Lib.hid (H4.out.seenKeep (o := ⟨⟨nm, sec, wd⟩, q2⟩) hN)
                have HNS := Lib.hid (show namesP (O ++ [⟨⟨nm, sec, wd⟩, q2⟩]) = namesP O by rw [namesP_snoc, if_pos hN])
                clear hN
                go_wp2
                go_roundw
                case rel => exact ⟨k + 1, by omega, by go_num, Lib.hid ⟨c0 + 1 + 1, by have := HC0.out; omega, by rw [HO2.out, HNS.out]; exact H5.out⟩⟩
                case measure => simp [intOf] <;> omega
              · rw [decide_eq_false hN] at hl3
                obtain ⟨W5, hr5, hs5, hg5⟩ := H4.out.seenPut (o := ⟨⟨nm, sec, wd⟩, q2⟩) hN (by have := HC0.out; simp only [maxLen]; omega) (by show nm.length ≤ maxLen; have := HNM.out; simp only [maxLen]; omega)
                have hr5b : (Instr.mapUpdate 90 (.map (some (w.heap.size + 2))) (.string (ba nm)) (.bool true)).run Tryz.prog W4 = .ok () W5 := hr5
                have HBX5 := Lib.hid (HBX4.out.block (hg5.block w2.heap.size (by exact HZ4.out) (by have := HS2.out.size; simp; omega)))
                obtain ⟨x50, x51, x52⟩ := HBX5.out
                have H5 := Lib.hid hs5
                have HNS := Lib.hid (show namesP (O ++ [⟨⟨nm, sec, wd⟩, q2⟩]) = namesP O ++ [nm] by rw [namesP_snoc, if_neg hN])
                have HNL := Lib.hid (show (namesP O).length < 1099511627776 by have h1 := namesP_len O []; have h2 := HOLK.out; unfold namesP; simp only [List.length_nil] at h1; omega)
                clear hN hr5 hs5 hg5
                go_wp2_with (at_builtin; go_must (refine wpList_pushStr (W := W5) H5.out.own H5.out.size HNL.out rfl (.tmp 79) (.tmp 82) 89 1 rfl Tryz.underlying89 rfl (by show Value.slice (some ⟨W5.heap.size, 0, none⟩) 1 1 = _; simp) ?_); intro v6 w6 h1 h2 h3; (have H6 := Lib.hid (H5.out.push h1 h2); clear h1 h2 h3))
                go_roundw
                case rel => exact ⟨k + 1, by omega, by go_num, Lib.hid ⟨c0 + 1 + 1 + 1, by have := HC0.out; omega, by rw [HO2.out, HNS.out]; exact H6.out⟩⟩
                case measure => simp [intOf] <;> omega

          · have H4 := Lib.hid (H3.out.firSkip (o := ⟨⟨nm, sec, wd⟩, q2⟩) hS)
            have HBX4 := HBX3
            have HZ4 := HZ3
            have hl3 := H4.out.seen.look Tryz.underlying90 (zero_bool (W2.alloc (.cells #[.string (ba nm), .int .i64 sec, .bool false] 94))) (x := nm) (by show nm.length ≤ maxLen; have := HNM.out; simp only [maxLen]; omega)
            rw [seen_bool] at hl3
            unfold strK at hl3
            obtain ⟨x40, x41, x42⟩ := HBX4.out
            by_cases hN : nm ∈ namesP O
            · rw [decide_eq_true hN] at hl3
              have H5 := Lib.hid (H4.out.seenKeep (o := ⟨⟨nm, sec, wd⟩, q2⟩) hN)
              have HNS := Lib.hid (show namesP (O ++ [⟨⟨nm, sec, wd⟩, q2⟩]) = namesP O by rw [namesP_snoc, if_pos hN])
              clear hN
              go_wp2
              go_roundw
              case rel => exact ⟨k + 1, by omega, by go_num, Lib.hid ⟨c0 + 1, by have := HC0.out; omega, by rw [HO2.out, HNS.out]; exact H5.out⟩⟩
              case measure => simp [intOf] <;> omega
            · rw [decide_eq_false hN] at hl3
              obtain ⟨W5, hr5, hs5, hg5⟩ := H4.out.seenPut (o := ⟨⟨nm, sec, wd⟩, q2⟩) hN (by have := HC0.out; simp only [maxLen]; omega) (by show nm.length ≤ maxLen; have := HNM.out; simp only [maxLen]; omega)
              have hr5b : (Instr.mapUpdate 90 (.map (some (w.heap.size + 2))) (.string (ba nm)) (.bool true)).run Tryz.prog (W2.alloc (.cells #[.string (ba nm), .int .i64 sec, .bool false] 94)) = .ok () W5 := hr5
              have HBX5 := Lib.hid (HBX4.out.block (hg5.block w2.heap.size (by exact HZ4.out) (by have := HS2.out.size; simp; omega)))
              obtain ⟨x50, x51, x52⟩ := HBX5.out
              have H5 := Lib.hid hs5
              have HNS := Lib.hid (show namesP (O ++ [⟨⟨nm, sec, wd⟩, q2⟩]) = namesP O ++ [nm] by rw [namesP_snoc, if_neg hN])
              have HNL := Lib.hid (show (namesP O).length < 1099511627776 by have h1 := namesP_len O []; have h2 := HOLK.out; unfold namesP; simp only [List.length_nil] at h1; omega)
              clear hN hr5 hs5 hg5
              go_wp2_with (at_builtin; go_must (refine wpList_pushStr (W := W5) H5.out.own H5.out.size HNL.out rfl (.tmp 79) (.tmp 82) 89 1 rfl Tryz.underlying89 rfl (by show Value.slice (some ⟨W5.heap.size, 0, none⟩) 1 1 = _; simp) ?_); intro v6 w6 h1 h2 h3; (have H6 := Lib.hid (H5.out.push h1 h2); clear h1 h2 h3))
              go_roundw
              case rel => exact ⟨k + 1, by omega, by go_num, Lib.hid ⟨c0 + 1 + 1, by have := HC0.out; omega, by rw [HO2.out, HNS.out]; exact H6.out⟩⟩
              case measure => simp [intOf] <;> omega


    · obtain rfl : k = n := by omega
      obtain ⟨c0, hc0, hst⟩ := HI.out
      rw [List.take_of_length_le (by rw [HN.out]; exact Nat.le_refl _)] at hst
      have HPAR := Lib.hid (show paramsP rs = (namesP (onesP rs)).filterMap (fun n => (valueP (onesP rs) n).map fun v => (n, v)) from rfl)
      obtain ⟨O, hO⟩ : ∃ O, onesP rs = O := ⟨_, rfl⟩
      rw [hO] at hst HPAR HOK HOL
      have HNMS := Lib.hid (show ∀ x ∈ namesP O, x.length ≤ 10000000 from fun x hx => by
        rcases namesP_mem O [] x hx with h | ⟨o, ho, rfl⟩
        · cases h
        · exact (HOK.out o ho).2)
      have HNL := Lib.hid (show (namesP O).length ≤ 1000000000 by have h1 := namesP_len O []; have h2 := HOL.out; have h3 := HN.out; unfold namesP; simp only [List.length_nil] at h1; omega)
      obtain ⟨f, hf⟩ : ∃ f : List UInt8 → Option (List UInt8 × List UInt8), (fun n => (valueP O n).map fun v => (n, v)) = f := ⟨_, rfl⟩
      have HF := Lib.hid (show ∀ n, f n = (valueP O n).map fun v => (n, v) from fun n => by rw [← hf])
      rw [hf] at HPAR
      obtain ⟨ns, hns⟩ : ∃ ns, namesP O = ns := ⟨_, rfl⟩
      rw [hns] at hst HPAR HNMS HNL
      obtain ⟨A5, c5, rfl, -, -, hS⟩ := hst.own.strs
      obtain ⟨m, hm⟩ : ∃ m, ns.length = m := ⟨_, rfl⟩
      have HML := Lib.hid hm
      rw [hm] at HNL hS ⊢
      have hmn := HNL.out
      have HSS := Lib.hid hS.2
      have HPM := Lib.hid (show PMaps wr O w.heap.size (w.heap.size + 1) from ⟨⟨c0, hst.par⟩, c0, hst.fir⟩)
      have HBW := Lib.hid hst.bel
      clear hO hf hns hm hst HI hc0 hS
      obtain ⟨w3, rfl⟩ : ∃ w3, w3 = wr := ⟨_, rfl⟩
      have HPS := Lib.hid HBW.out.size
      go_wp2
      go_loopw [17, 87] (fun v i wr => ∃ k : Nat, k ≤ m ∧ i = .int .i64 (k : Int) ∧ Hid (L2St w w3 f ns k v wr)) (fun _ i _ => m - (intOf i).toNat)
      case atStart => exact ⟨0, Nat.zero_le _, rfl, Lib.hid ⟨OwnPars.nil_ _ _, Below.refl _ _⟩⟩
      case round =>
        obtain ⟨j, hj, rfl, HL⟩ := hrel
        have hszj := HL.out.bel.size
        by_cases hjm : j < m
        · have hj2 : (j : Int) < m := by omega
          have hjl : j < ns.length := by rw [HML.out]; exact hjm
          obtain ⟨ad5, u5, rfl, hbl5, hu5, hcell5⟩ := HSS.out.at_ (k := j) (by unfold sv; rw [List.length_map]; exact hjl)
          have hu6 : u5 = .string (ba ns[j]) := by
            unfold sv at hu5
            rw [List.getElem?_map, List.getElem?_eq_getElem hjl] at hu5
            injection hu5 with hu5
            exact hu5.symm
          subst hu6
          have hcell6 := (HL.out.bel.cell (p := ad5.add j) (by rw [add_block]; exact hbl5)).trans hcell5
          have hxl := HNMS.out _ (List.getElem_mem hjl)
          have HTK := Lib.hid (paramsP_take (f := f) hjl)
          obtain ⟨x, hx⟩ : ∃ x, ns[j] = x := ⟨_, rfl⟩
          rw [hx] at hcell6 hxl HTK
          have HVA := Lib.hid (value_any O x w.heap.size (w.heap.size + 1) wr (HPM.out.below HL.out.bel) (by omega) HOK.out (HT.out.below (HBW.out.trans (HL.out.bel.mono HPS.out))))
          unfold ValPost at HVA
          rw [HF.out] at HTK
          have HOWN := Lib.hid HL.out.own
          have HBL := Lib.hid HL.out.bel
          have HLN := Lib.hid (show ((ns.take j).filterMap f).length ≤ 1000000000 by
            have h1 := List.length_filterMap_le f (ns.take j)
            rw [List.length_take] at h1
            omega)
          clear hbl5 hu5 hcell5 hjl hxl hx HL
          cases hV : valueP O x with
          | none =>
            rw [hV] at HVA HTK
            clear hV
            go_wp2_with fail
            refine HVA.out.mono ?_
            rintro e w4 ⟨rfl, hb4⟩
            have HN4 := Lib.hid (show L2St w w3 f ns (j + 1) _ w4 from ⟨by rw [HTK.out]; simpa using HOWN.out.below hb4, HBL.out.trans (hb4.mono hszj)⟩)
            clear hb4
            go_wp2
            go_roundw
            case rel => exact ⟨j + 1, by omega, by go_num, HN4⟩
            case measure => simp [intOf] <;> omega
          | some y =>
            rw [hV] at HVA HTK
            clear hV
            go_wp2_with fail
            refine HVA.out.mono ?_
            rintro e w4 ⟨rfl, hb4⟩
            have HO4 := Lib.hid (HOWN.out.below hb4)
            have HB4 := Lib.hid (HBL.out.trans (hb4.mono hszj))
            have hs4 : w3.heap.size ≤ w4.heap.size := HB4.out.size
            clear hb4
            go_wp2_with (at_builtin; go_must (refine wpList_pushPar (W := w4) HO4.out hs4 trivial HLN.out rfl (.tmp 99) (.tmp 103) 1 rfl rfl (by show Value.slice (some ⟨w4.heap.size, 0, none⟩) 1 1 = _; simp) ?_); intro v6 w6 h1 h2; (have HN6 := Lib.hid (show L2St w w3 f ns (j + 1) v6 w6 from ⟨by rw [HTK.out]; exact h1, HB4.out.grown h2 hs4 fun q e => (HO4.out.row.lt q e).1⟩); clear h1 h2))
            go_roundw
            case rel => exact ⟨j + 1, by omega, by go_num, HN6⟩
            case measure => simp [intOf] <;> omega
        · obtain rfl : j = m := by omega
          have HL9 := Lib.hid (show OwnPars wr w3.heap.size _ (paramsP rs) by
            rw [HPAR.out]
            have := HL.out.own
            rw [List.take_of_length_le (by rw [HML.out]; exact Nat.le_refl _)] at this
            exact this)
          have HB9 := Lib.hid (HBW.out.trans (HL.out.bel.mono HPS.out))
          clear HL
          go_wp2
          go_ret
          exact ⟨_, rfl, HL9.out.more HPS.out, HB9.out⟩
end Go.Proofs.YtnpgnohlcphfnaaGreatDoor
end
section
namespace Go.Proofs.YtnpgnohlcphfnaaGreatDoor
open Go.RowKit
set_option linter.unusedVariables false

theorem semi_kind {t : Tok} (h : t.kind ≠ 4 ∨ t.text ≠ [59]) : semiB t = false := by
  unfold semiB
  rcases h with h | h
  · rw [decide_eq_false h]; rfl
  · rw [decide_eq_false h, Bool.and_false]
theorem tokRows_def (l : List UInt8) : tokRows l = rowsP (bareP (scanP l)) := rfl
theorem scanF_len : ∀ (f : Nat) (l : List UInt8), (scanF f l).length ≤ f
  | 0, l => by simp [scanF]
  | f + 1, l => by
    unfold scanF
    split
    · simp
    · have := scanF_len f (l.drop (frontP l).2)
      simp only [List.length_cons]
      omega
theorem scanP_len (l : List UInt8) : (scanP l).length ≤ l.length := scanF_len _ _
theorem bareP_len (ts : List Tok) : (bareP ts).length ≤ ts.length := List.length_filter_le _ _
theorem rowsP_row : ∀ (l : List Tok) (r : List Tok), r ∈ rowsP l → r.length ≤ l.length
  | [], r, h => by
    have : r = [] := by simpa [rowsP] using h
    subst this
    exact Nat.le_refl _
  | t :: l, r, h => by
    unfold rowsP at h
    split at h
    · rcases List.mem_cons.1 h with rfl | h
      · exact Nat.zero_le _
      · have := rowsP_row l r h
        simp only [List.length_cons]; omega
    · split at h
      · rename_i hr
        exact absurd hr (rowsP_ne l)
      · rename_i a b hr
        rcases List.mem_cons.1 h with rfl | h
        · have := rowsP_row l a (by rw [hr]; exact List.mem_cons_self ..)
          simp only [List.length_cons]; omega
        · have := rowsP_row l r (by rw [hr]; exact List.mem_cons_of_mem _ h)
          simp only [List.length_cons]; omega
set_option maxRecDepth 100000 in
set_option maxHeartbeats 4000000 in
theorem rows_any (l : List UInt8) (w : World) (hl : l.length ≤ 500000000) :
    Calls Tryz.prog 29 #[.string (ba l)] w (RowsPost w (tokRows l)) := by
  have HTR := Lib.hid (tokRows_def l)
  have h1 := scanP_len l
  have h2 := bareP_len (scanP l)
  have HSL := Lib.hid h1
  have HROW0 := Lib.hid (World.ownsRow_lit (size := 1) (base := w.heap.size) (e := 55) w #[.slice none 0 0] 1 (Nat.le_refl _) (by decide) rfl)
  go_enter Tryz.func29, Tryz.ntmps29
  go_wp2_with fail
  refine (scan_any l _ (by omega)).mono ?_
  rintro e w1 ⟨v1, rfl, hs1, hb1⟩
  obtain ⟨A1, c1, rfl, hc1, hc2, hT1⟩ := hs1.reads
  have HB1 := Lib.hid hb1
  clear hs1 hb1 hc1 hc2
  go_wp2_with fail
  refine (bare_any (scanP l) A1 _ c1 w1 hT1 (by omega)).mono ?_
  rintro e w2 ⟨v2, rfl, hs2, hb2⟩
  obtain ⟨A2, c2, rfl, hc1, hc2, hT2⟩ := hs2.reads
  obtain ⟨ts, hts⟩ : ∃ ts, bareP (scanP l) = ts := ⟨_, rfl⟩
  rw [hts] at hT2 HTR hc1 h2
  rw [hts]
  have hn : ts.length ≤ 500000000 := by omega
  obtain ⟨n, hn2⟩ : ∃ n, ts.length = n := ⟨_, rfl⟩
  rw [hn2] at hT2 hn hc1
  rw [hn2]
  have HN := Lib.hid hn2
  have HT := Lib.hid hT2
  have hz0 : w.heap.size + 1 ≤ w1.heap.size := by have := HB1.out.size; simp at this; omega
  have HB2 := Lib.hid (hb2)
  have hz2 : w1.heap.size ≤ w2.heap.size := hb2.size
  have HBW := Lib.hid (show Below w.heap.size w w2 from ((Below.refl _ _).alloc (Nat.le_refl _) _).trans ((HB1.out.mono (by simp)).trans (hb2.mono (by omega))))
  have HLO := Lib.hid (show ∀ ad, A2 = some ad → w1.heap.size ≤ ad.block from fun ad e => by subst e; exact (hs2.row.lt ad.block rfl).1)
  have HR0 := Lib.hid (show RowsAt w2 w.heap.size w2.heap.size (.slice (some ⟨w.heap.size, 0, none⟩) 1 1) [[]] [.slice none 0 0] from by
    have hk : w2.heap[w.heap.size]? = (w.alloc (.cells #[.slice none 0 0] 55)).heap[w.heap.size]? := (hb2.block _ (by omega)).trans (HB1.out.block _ (by simp))
    refine ⟨ownsRow_block HROW0.out fun b e => ?_, rfl, fun i hi => ?_, fun i j b hij hj => ?_⟩
    · have : w.heap.size = b := Option.some.inj e
      rw [← this]
      exact hk
    · have : i = 0 := by simp at hi; exact hi
      subst this
      exact OwnToks.nil_ _ _
    · simp at hj; omega)
  clear hT1 hs2 hb2 hc1 hc2 h1 h2 hts hn2 hT2
  go_wp2
  go_loopw [3, 5, 11] (fun v b i wr => ∃ (k : Nat) (y : Value), b = y ∧ k ≤ n ∧ i = .int .i64 (k : Int) ∧ Hid (RwRel w w2 ts k v wr)) (fun _ _ i _ => n - (intOf i).toNat)
  case atStart => exact ⟨0, _, rfl, Nat.zero_le _, rfl, Lib.hid ⟨⟨[], [], _, rfl, HR0.out⟩, HBW.out, fun b e => .inl (by injection e with e; exact e.symm), fun _ _ _ => rfl, Nat.le_refl _⟩⟩
  case round =>
    obtain ⟨k, y, rfl, hk, rfl, HR⟩ := hrel
    have hsz := HR.out.bel.size
    by_cases hlt : k < n
    · have hk2 : (k : Int) < n := by omega
      have hkl : k < ts.length := by rw [HN.out]; exact hlt
      obtain ⟨rs, r, xs, hrw, hra⟩ := HR.out.ex
      have HRT := Lib.hid (rows_take hkl hrw)
      have HBE := Lib.hid HR.out.bel
      have HRL := Lib.hid (show r.length ≤ 1000000000 by
        have h1 := rowsP_row (ts.take k) r (by rw [hrw]; simp)
        rw [List.length_take] at h1
        omega)
      have hlen1 : (rs ++ [r]).length ≤ k + 1 := by
        rw [← hrw]
        have := rowsP_len (ts.take k)
        rw [List.length_take] at this
        omega
      obtain ⟨ad, rfl, hbl, c0, c1, c2⟩ := HT.out.2 k hkl
      have hadb : (ad.add (k * 2)).block ≠ w.heap.size := by rw [add_block]; have := HLO.out ad rfl; omega
      have hk9 := HR.out.keep _ hbl hadb
      have d0 := (World.cell?_of_block (a := ad.add (k * 2)) hk9).trans c0
      have d1 := (World.cell?_of_block (a := ⟨(ad.add (k * 2)).block, (ad.add (k * 2)).off + 1, none⟩) hk9).trans c1
      have HVB := Lib.hid HR.out.vb
      have HKP := Lib.hid HR.out.keep
      have hws := HR.out.size
      have HRA := Lib.hid hra
      clear hk9 c0 c1 hrw hra HR
      obtain ⟨t, ht⟩ : ∃ t, ts[k] = t := ⟨_, rfl⟩
      rw [ht] at d0 d1 HRT c2
      have HC2 := Lib.hid c2
      have hB : w.heap.size ≤ (wr.alloc (.cells #[.int .i64 t.kind, .string (ba t.text)] 85)).heap.size := by simp; omega
      have HRB := Lib.hid (show RowsAt (wr.alloc (.cells #[.int .i64 t.kind, .string (ba t.text)] 85)) w.heap.size w2.heap.size u3 (rs ++ [r]) xs from HRA.out.below ((Below.refl _ _).alloc (Nat.le_refl _) _))
      have HL1 := Lib.hid (show (rs ++ [r]).length ≤ 1000000000 by omega)
      clear ht c2 hkl hadb hbl
      by_cases hse : semiB t = true
      · have hk4 : t.kind = 4 ∧ t.text = [59] := by
          unfold semiB at hse
          rw [Bool.and_eq_true, decide_eq_true_iff, decide_eq_true_iff] at hse
          exact hse
        have g1 : (t.kind == 4) = true := by simp [hk4.1]
        have g2 : (ba t.text).toList = [59] := by rw [ba_toList, hk4.2]
        have HRT2 := Lib.hid (show rowsP (ts.take (k + 1)) = (rs ++ [r]) ++ [[]] by rw [HRT.out, if_pos hse])
        clear hse hk4
        go_wp2_with (at_builtin; go_must (refine wpList_pushNil (W := (wr.alloc (.cells #[.int .i64 t.kind, .string (ba t.text)] 85))) HRB.out hB HL1.out rfl (.tmp 23) (.tmp 24) 1 rfl rfl (by show Value.slice (some ⟨wr.heap.size + 1, 0, none⟩) 1 1 = _; simp) ?_); intro v2 w3 h1 h2 h3; (have H1 := Lib.hid h1; have H2 := Lib.hid h2; have H3 := Lib.hid h3; clear h1 h2 h3))
        go_roundw
        case rel =>
          refine ⟨k + 1, _, rfl, by omega, by go_num, Lib.hid ⟨⟨_, _, _, HRT2.out, H1.out⟩, (HBE.out.alloc hsz _).grown H2.out hB (fun g e => (HRB.out.own.lt g e).1), fun b e => ?_, fun b hb hne => ?_, by have := H2.out.size; simp at this; omega⟩⟩
          · rcases H3.out with h | ⟨q, hq, hq2⟩
            · exact HVB.out b (by rw [← h]; exact e)
            · rw [hq] at e
              have : q = b := Option.some.inj e
              simp at hq2
              omega
          · refine (H2.out.block b (by simp; omega) fun e => ?_).trans ((heap_alloc_old _ _ (by omega)).trans (HKP.out b hb hne))
            rcases HVB.out b e.symm with h | h
            · exact hne h
            · omega
        case measure => simp [intOf] <;> omega
      · have HRT2 := Lib.hid (show rowsP (ts.take (k + 1)) = rs ++ [r ++ [t]] by rw [HRT.out, if_neg hse])
        have hnk : (t.kind == 4) = false ∨ ((t.kind == 4) = true ∧ ((ba t.text).toList == [59]) = false ∧ ¬ (ba t.text).toList = [59]) := by
          by_cases h4 : t.kind = 4
          · refine .inr ⟨by simp [h4], ?_⟩
            have h5 : t.text ≠ [59] := fun h => hse (by unfold semiB; simp [h4, h])
            rw [ba_toList]
            exact ⟨by simpa using h5, h5⟩
          · exact .inl (by simpa using h4)
        clear hse
        obtain ⟨g, cap, hu3, hgB, hgL⟩ := HRB.out.own.form (by simp)
        subst hu3
        have hml : (rs ++ [r]).length = rs.length + 1 := by rw [List.length_append]; rfl
        have hcx := HRB.out.own.cellAt (g := g) rs.length (by omega)
        have hxl : xs.length = rs.length + 1 := by rw [HRB.out.len, hml]
        have hxv : xs[rs.length]? = some (xs.getD rs.length .nilFunc) := by rw [List.getD_eq_getElem?_getD, List.getElem?_eq_getElem (by omega)]; rfl
        rw [hxv] at hcx
        have hol := HRB.out.each rs.length (by omega)
        rw [List.getElem_append_right (Nat.le_refl _)] at hol
        simp only [Nat.sub_self, List.getElem_cons_zero] at hol
        obtain ⟨A3, c3, hA3, _, _, _⟩ := hol.reads
        have hgw : g ≠ wr.heap.size := by
          rcases HVB.out g rfl with h | h
          · omega
          · intro e
            have h1 := (HRA.out.own.lt g rfl).2
            omega
        have HRB3 := Lib.hid HRB.out
        obtain ⟨xv, hxv2⟩ : ∃ x, xs.getD rs.length .nilFunc = x := ⟨_, rfl⟩
        rw [hxv2] at hcx hol hA3
        subst hA3
        have HXV := Lib.hid hxv2
        have HOL := Lib.hid hol
        rw [hml]
        obtain ⟨m, hm⟩ : ∃ m, rs.length = m := ⟨_, rfl⟩
        rw [hm] at hcx hml hxl
        rw [hm]
        have HM := Lib.hid hm
        have hm9 : m ≤ 1000000000 := by have := HL1.out; omega
        have hfz : (wr.alloc (.cells #[.int .i64 t.kind, .string (ba t.text)] 85)).frozen? ⟨g, m, none⟩ = false := HRB.out.own.frozenAt m
        have hcx2 : ((wr.alloc (.cells #[.int .i64 t.kind, .string (ba t.text)] 85)).alloc (.cells #[.int .i64 t.kind, .string (ba t.text)] 85)).cell? ⟨g, m, none⟩ = some (Value.slice A3 r.length c3) := (((Below.refl (wr.alloc (.cells #[.int .i64 t.kind, .string (ba t.text)] 85)).heap.size (wr.alloc (.cells #[.int .i64 t.kind, .string (ba t.text)] 85))).alloc (Nat.le_refl _) (.cells #[.int .i64 t.kind, .string (ba t.text)] 85)).cell (p := ⟨g, m, none⟩) (HRB.out.own.lt g rfl).2).trans hcx
        have HOLD := Lib.hid (show OwnToks (wr.alloc (.cells #[.int .i64 t.kind, .string (ba t.text)] 85)).drew w2.heap.size (.slice A3 r.length c3) r from HOL.out.block fun _ _ => rfl)
        have hBL : w2.heap.size ≤ (wr.alloc (.cells #[.int .i64 t.kind, .string (ba t.text)] 85)).drew.heap.size := by simp; omega
        have HST := Lib.hid (show ∀ w3 : World, (wr.alloc (.cells #[.int .i64 t.kind, .string (ba t.text)] 85)).drew.grownBy w3 (Value.slice A3 r.length c3).ownBlock → w3.cell? ⟨g, m, none⟩ = some (Value.slice A3 r.length c3) ∧ w3.frozen? ⟨g, m, none⟩ = false from fun w3 h => by
          have hne : ∀ b, (Value.slice A3 r.length c3).ownBlock = some b → b ≠ g := fun b hb e => by
            subst e
            exact own_ne HOL.out.row HRB.out.own (by decide) hb rfl
          have hgk : w3.heap[g]? = (wr.alloc (.cells #[.int .i64 t.kind, .string (ba t.text)] 85)).heap[g]? := h.block g (HRB.out.own.lt g rfl).2 fun e => hne g e.symm rfl
          exact ⟨(World.cell?_of_block (a := ⟨g, m, none⟩) hgk).trans hcx, (by unfold World.frozen?; rw [hgk]; exact hfz)⟩)
        have HEND := Lib.hid (show ∀ (v' : Value) (w3 : World), OwnToks w3 w2.heap.size v' (r ++ [⟨t.kind, t.text⟩]) → (wr.alloc (.cells #[.int .i64 t.kind, .string (ba t.text)] 85)).drew.grownBy w3 (Value.slice A3 r.length c3).ownBlock → (v'.ownBlock = (Value.slice A3 r.length c3).ownBlock ∨ ∃ k, v'.ownBlock = some k ∧ (wr.alloc (.cells #[.int .i64 t.kind, .string (ba t.text)] 85)).drew.heap.size ≤ k) →
            RwRel w w2 ts (k + 1) (.slice (some ⟨g, 0, none⟩) (m + 1) cap) (w3.setCell ⟨g, m, none⟩ v') from fun v' w3 h1 h2 h3 => by
          have hg' : (wr.alloc (.cells #[.int .i64 t.kind, .string (ba t.text)] 85)).grownBy w3 (xs.getD rs.length .nilFunc).ownBlock := by
            rw [HXV.out]
            exact ⟨h2.os, h2.tape, h2.output, h2.size, h2.block⟩
          have hset := HRB3.out.setLast hg' h1 (by rw [HXV.out]; exact h3)
          rw [HM.out] at hset
          have hmm : (rs ++ [r]).length = m + 1 := by rw [List.length_append, HM.out]; rfl
          rw [hmm] at hset
          have hz := h2.size
          simp at hz
          refine ⟨⟨rs, r ++ [t], _, HRT2.out, hset⟩, (((HBE.out.alloc hsz _).drew).grown h2 (by simp; omega) fun q e => by have := (HOL.out.row.lt q e).1; omega).setCell hgB _, fun b e => HVB.out b e, fun b hb hne => ?_, by simp; omega⟩
          have hbg : b ≠ g := by
            rcases HVB.out g rfl with h | h <;> omega
          rw [heap_setCell_other _ ⟨g, m, none⟩ b _ hbg]
          refine (h2.block b (by simp; omega) fun e => ?_).trans ((heap_alloc_old _ _ (by omega)).trans (HKP.out b hb hne))
          have := (HOL.out.row.lt b e.symm).1
          omega)
        clear hxv hol hxv2 hm hml hxl HL1
        rcases hnk with g1 | ⟨g1, g2, g3⟩
        · go_wp2
          have hmw : IntKind.i64.wrap (m : Int) = (m : Int) := IntWalk.i64_in _ (by omega)
          have hm0 : (0 : Int) ≤ (m : Int) := by omega
          have hm1 : (m : Int) < (m : Int) + 1 := by omega
          go_region_law
            (first
              | (refine step_pushTokN (W := (wr.alloc (.cells #[.int .i64 t.kind, .string (ba t.text)] 85)).drew) HOLD.out hBL HC2.out HRL.out rfl (.tmp 35) (.tmp 37) 1 rfl rfl (by show Value.slice (some ⟨wr.heap.size + 1, 0, none⟩) 1 1 = _; simp) ?_; intro v' w3 h1 h2 h3; (obtain ⟨A4, c4, hv4, -, -, -⟩ := h1.reads; rw [List.length_append, List.length_singleton] at hv4; subst hv4; have H1 := Lib.hid h1; have H2 := Lib.hid h2; have H3 := Lib.hid h3; clear h1 h2 h3; obtain ⟨p1, p2⟩ := HST.out w3 H2.out))
              | fail)
          all_goals
            go_wp2
            go_roundw
            case rel => exact ⟨k + 1, _, rfl, by omega, by go_num, Lib.hid (HEND.out _ _ H1.out H2.out H3.out)⟩
            case measure => simp [intOf] <;> omega
        · go_wp2
          have hmw : IntKind.i64.wrap (m : Int) = (m : Int) := IntWalk.i64_in _ (by omega)
          have hm0 : (0 : Int) ≤ (m : Int) := by omega
          have hm1 : (m : Int) < (m : Int) + 1 := by omega
          go_region_law
            (first
              | (refine step_pushTokN (W := (wr.alloc (.cells #[.int .i64 t.kind, .string (ba t.text)] 85)).drew) HOLD.out hBL HC2.out HRL.out rfl (.tmp 35) (.tmp 37) 1 rfl rfl (by show Value.slice (some ⟨wr.heap.size + 1, 0, none⟩) 1 1 = _; simp) ?_; intro v' w3 h1 h2 h3; (obtain ⟨A4, c4, hv4, -, -, -⟩ := h1.reads; rw [List.length_append, List.length_singleton] at hv4; subst hv4; have H1 := Lib.hid h1; have H2 := Lib.hid h2; have H3 := Lib.hid h3; clear h1 h2 h3; obtain ⟨p1, p2⟩ := HST.out w3 H2.out))
              | fail)
          all_goals
            go_wp2
            go_roundw
            case rel => exact ⟨k + 1, _, rfl, by omega, by go_num, Lib.hid (HEND.out _ _ H1.out H2.out H3.out)⟩
            case measure => simp [intOf] <;> omega
    · obtain rfl : k = n := by omega
      obtain ⟨rs, r, xs, hrw, hra⟩ := HR.out.ex
      rw [List.take_of_length_le (by rw [HN.out]; exact Nat.le_refl _)] at hrw
      have HRA := Lib.hid hra
      have HRW := Lib.hid hrw
      have HBE := Lib.hid HR.out.bel
      clear hrw hra HR
      go_wp2
      go_ret
      exact ⟨_, xs, rfl, by rw [HTR.out, HRW.out]; exact HRA.out.less (by omega), HBE.out⟩
end Go.Proofs.YtnpgnohlcphfnaaGreatDoor
end
