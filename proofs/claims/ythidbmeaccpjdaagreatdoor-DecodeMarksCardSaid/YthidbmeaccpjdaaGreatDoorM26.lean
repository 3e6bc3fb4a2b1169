/- Layer 12: the contract of list (printed by gen_list. -/
import Derived.Test.YthidbmeaccpjdaaGreatDoorM23
import Derived.Test.YthidbmeaccpjdaaGreatDoorM18
namespace Go.Proofs.YthidbmeaccpjdaaGreatDoor
open Go.RowKit
set_option linter.unusedVariables false
set_option maxHeartbeats 4000000
theorem seen_bool (ones : List One1) (x : List UInt8) : (seenF ones x).getD (.bool false) = .bool (decide (x ∈ namesP ones)) := by
 unfold seenF
 by_cases h : x ∈ namesP ones
 ·rw [if_pos h, decide_eq_true h]; rfl
 ·rw [if_neg h, decide_eq_false h]; rfl
theorem onesP_take {rs : List (List Tok)} {k : Nat} (hk : k < rs.length) : onesP (rs.take (k + 1)) = onesP (rs.take k) ++ (if (pairP rs[k]).1 = [] then [] else [⟨whereP (pairP rs[k]).1, (pairP rs[k]).2⟩]) := by
 rw [List.take_succ_eq_append_getElem hk, onesP_snoc]
structure L2St (w w3 : World) (f : List UInt8 → Option (List UInt8 × List UInt8)) (ns : List (List UInt8)) (k : Nat) (v : Value) (wr : World) : Prop where
 own : OwnPars wr w3.heap.size v ((ns.take k).filterMap f)
 bel : Below w3.heap.size w3 wr
def L1St (w : World) (rs : List (List Tok)) (k : Nat) (v : Value) (wr : World) : Prop :=
 ∃ c, c ≤ 3 * k ∧ LSt w (onesP (rs.take k)) (onesP (rs.take k)) (onesP (rs.take k)) c v (namesP (onesP (rs.take k))) wr
def BoxAt (W : World) (b : Nat) (nm : List UInt8) (sec : Int) (wd : Bool) : Prop :=
 W.cell? ⟨b, 0, none⟩ = some (.string (ba nm)) ∧ W.cell? ⟨b, 1, none⟩ = some (.int .i64 sec) ∧ W.cell? ⟨b, 2, none⟩ = some (.bool wd)
theorem BoxAt.block {W W' : World} {b : Nat} {nm : List UInt8} {sec : Int} {wd : Bool} (h : BoxAt W b nm sec wd) (hb : W'.heap[b]? = W.heap[b]?) : BoxAt W' b nm sec wd :=
 ⟨(World.cell?_of_block (a := ⟨b, 0, none⟩) hb).trans h.1, (World.cell?_of_block (a := ⟨b, 1, none⟩) hb).trans h.2.1, (World.cell?_of_block (a := ⟨b, 2, none⟩) hb).trans h.2.2⟩
theorem BoxAt.new (W : World) (nm : List UInt8) (sec : Int) (wd : Bool) (t : TypeId) : BoxAt (W.alloc (.cells #[.string (ba nm), .int .i64 sec, .bool wd] t)) W.heap.size nm sec wd := by
 refine ⟨?_, ?_, ?_⟩ <;> simp
theorem maps_new (w : World) : LSt w [] [] [] 0 (.slice none 0 0) [] (((w.alloc (.map #[] 0)).alloc (.map #[] 0)).alloc (.map #[] 0)) := by
 have h1 := MapL.made spotK w
 have h2 := MapL.made spotK (w.alloc (.map #[] 0))
 have h3 := MapL.made strK ((w.alloc (.map #[] 0)).alloc (.map #[] 0))
 have b1 : ∀ (W : World) (o : Obj), Below W.heap.size W (W.alloc o) := fun W o => (Below.refl _ _).alloc (Nat.le_refl _) o
 have s1 : (w.alloc (.map #[] 0)).heap.size = w.heap.size + 1 := by simp
 have s2 : ((w.alloc (.map #[] 0)).alloc (.map #[] 0)).heap.size = w.heap.size + 2 := by simp
 rw [s1] at h2
 rw [s2] at h3
 refine ⟨(((h1.below (b1 _ _)).below (b1 _ _)).congr fun x _ => rfl), ((h2.below (b1 _ _)).congr fun x _ => ?_), h3.congr fun x _ => rfl, OwnStrs.nil_ _ _, ((b1 _ _).trans ((b1 _ _).mono (by simp))).trans ((b1 _ _).mono (by simp; omega)), by simp⟩
 show (if x.wide = false ∧ 0 ≤ x.section_ then none else none) = none
 split <;> rfl
set_option maxRecDepth 100000 in
theorem list_any (rs : List (List Tok)) (A : Option Addr) (n c : Nat) (w : World) (hR : RowsIn w w.heap.size A n rs) (hn : n ≤ 1000000000) (hj : ∀ r ∈ rs, (joinP r).length ≤ 10000000 ∧ r.length ≤ 1000000000) (hT : Tabs w) :
  Calls Tryz.prog 154 #[.slice A n c] w (ListPost w (paramsP rs)) := by
 have HT := Lib.hid hT
 have HR := Lib.hid hR
 have HJ := Lib.hid hj
 have HN := Lib.hid hR.len
 have HM0 := Lib.hid (maps_new w)
 have HOK := Lib.hid (onesP_ok (fun r h => (hj r h).1))
 have HOL := Lib.hid (onesP_len rs)
 have hmm := @run_makeMap Tryz.prog
 clear hT hR hj
 go_enter Tryz.func154, Tryz.ntmps154
 go_wp2
 clear hmm
 go_loopw [5, 27] (fun v i wr => ∃ k : Nat, k ≤ n ∧ i = .int .i64 (k : Int) ∧ Hid (L1St w rs k v wr)) (fun _ i _ => n - (intOf i).toNat)
 case atStart => exact ⟨0, Nat.zero_le _, rfl, Lib.hid ⟨0, Nat.zero_le _, HM0.out⟩⟩
 case round =>
  obtain ⟨k, hk, rfl, HI⟩ := hrel
  by_cases hlt : k < n
  ·have hk2 : (k : Int) < n := by omega
   have hkl : k < rs.length := by rw [HN.out]; exact hlt
   obtain ⟨c0, hc0, hst⟩ := HI.out
   have hsz := hst.bel.size
   obtain ⟨ad, A', c', rfl, hbl, hcell, hcl, hcm, htk⟩ := HR.out.at_ hkl
   have hcell2 := (hst.bel.cell (p := ad.add k) (by rw [add_block]; exact hbl)).trans hcell
   have htk2 := (htk.below hst.bel).more hsz
   have HOT := Lib.hid (onesP_take hkl)
   have hrj := HJ.out _ (List.getElem_mem hkl)
   have hpl := pairP_len rs[k]
   obtain ⟨r, hr⟩ : ∃ r, rs[k] = r := ⟨_, rfl⟩
   rw [hr] at hcell2 hcl htk2 HOT hrj hpl
   have HPA := Lib.hid (pair_any r A' r.length c' wr htk2 hrj.2 hcl hcm (by omega) (HT.out.below hst.bel))
   obtain ⟨O, hO⟩ : ∃ O, onesP (rs.take k) = O := ⟨_, rfl⟩
   rw [hO] at hst HOT
   have HST := Lib.hid hst
   have HOLK := Lib.hid (show O.length ≤ 1000000000 by rw [← hO]; have := onesP_len (rs.take k); rw [List.length_take] at this; omega)
   have HC0 := Lib.hid hc0
   unfold PairPost at HPA
   obtain ⟨⟨q1, q2⟩, hq⟩ : ∃ q, pairP r = q := ⟨_, rfl⟩
   rw [hq] at HPA HOT hpl
   have hql1 : q1.length ≤ 10000000 := by have h1 : q1.length ≤ (joinP r).length := hpl.1; omega
   have hql2 : q2.length ≤ 10000000 := by have h1 : q2.length ≤ (joinP r).length := hpl.2; omega
   have HQ1 := Lib.hid hql1
   have HQ2 := Lib.hid hql2
   clear HI hst hr hq hcell htk htk2 hrj hpl hcl hcm hbl hkl hql1 hql2 hO hc0
   by_cases hemp : q1 = []
   ·subst hemp
    have HO2 := Lib.hid (show onesP (rs.take (k + 1)) = O by rw [HOT.out, if_pos rfl, List.append_nil])
    have g2 : ((ba ([] : List UInt8)).toList == []) = true := by rw [ba_toList]; rfl
    have g3 : (ba ([] : List UInt8)).toList = [] := by rw [ba_toList]
    go_wp2_with fail
    refine HPA.out.mono ?_
    rintro e w1 ⟨rfl, hb1⟩
    have HS1 := Lib.hid (HST.out.below hb1)
    clear hb1
    go_wp2
    go_roundw
    case rel => exact ⟨k + 1, by omega, by go_num, Lib.hid ⟨c0, by have := HC0.out; omega, by rw [HO2.out]; exact HS1.out⟩⟩
    case measure => simp [intOf] <;> omega
   ·have HO2 := Lib.hid (show onesP (rs.take (k + 1)) = O ++ [⟨whereP q1, q2⟩] by rw [HOT.out, if_neg hemp])
    have g2 : ((ba q1).toList == []) = false := by rw [ba_toList]; simpa using hemp
    have g3 : ¬ (ba q1).toList = [] := by rw [ba_toList]; exact hemp
    have HWA := Lib.hid (fun W h => where_any q1 W (by have := HQ1.out; omega) h)
    have hwl := whereP_len q1
    have hws := whereP_sec q1
    unfold WherePost at HWA
    obtain ⟨⟨nm, sec, wd⟩, hwp⟩ : ∃ q, whereP q1 = q := ⟨_, rfl⟩
    simp only [hwp, spotV] at HWA
    rw [hwp] at HO2 hwl hws
    have hs0 : -1 ≤ sec := hws.1
    have hs1 : sec ≤ 63 := hws.2
    have HNM := Lib.hid (show nm.length ≤ 10000000 by have h1 : nm.length ≤ q1.length := hwl; have := HQ1.out; omega)
    have HSB := Lib.hid (And.intro hs0 hs1)
    clear hemp hwp hwl hws hs0 hs1
    go_wp2_with fail
    refine HPA.out.mono ?_
    rintro e w1 ⟨rfl, hb1⟩
    have HS1 := Lib.hid (HST.out.below hb1)
    clear hb1
    go_wp2_with fail
    refine (HWA.out w1 (HT.out.below HS1.out.bel)).mono ?_
    rintro e w2 ⟨rfl, hb2⟩
    have HS2 := Lib.hid (HS1.out.below hb2)
    clear hb2
    have HX := Lib.hid (HS2.out.below ((Below.refl _ _).alloc (Nat.le_refl _) (.cells #[.string (ba nm), .int .i64 sec, .bool wd] 198)))
    have HBX1 := Lib.hid (BoxAt.new w2 nm sec wd 198)
    have hl1 := HX.out.par.look_ok Tryz.underlying193 (zero_str (w2.alloc (.cells #[.string (ba nm), .int .i64 sec, .bool wd] 198))) (x := ⟨nm, sec, wd⟩) (fits_spot (by have := HNM.out; omega) HSB.out.1 HSB.out.2)
    unfold spotK at hl1
    simp only [spotV] at hl1
    cases hP : parF O ⟨nm, sec, wd⟩ with
    | some u =>
     rw [hP] at hl1
     have H2 := Lib.hid (HX.out.parKeep (o := ⟨⟨nm, sec, wd⟩, q2⟩) hP)
     have HBX2 := HBX1
     have HZ2 := Lib.hid (show w2.heap.size < (w2.alloc (.cells #[.string (ba nm), .int .i64 sec, .bool wd] 198)).heap.size by simp)
     clear hP
     have H3 := Lib.hid (H2.out.below ((Below.refl _ _).alloc (Nat.le_refl _) (.cells #[.string (ba nm), .int .i64 sec, .bool false] 198)))
     have hz3 : w2.heap.size < ((w2.alloc (.cells #[.string (ba nm), .int .i64 sec, .bool wd] 198)).alloc (.cells #[.string (ba nm), .int .i64 sec, .bool false] 198)).heap.size := by have := HZ2.out; simp at this ⊢; omega
     have HZ3 := Lib.hid hz3
     clear hz3
     have HBX3 := Lib.hid (HBX2.out.block (heap_alloc_old (w2.alloc (.cells #[.string (ba nm), .int .i64 sec, .bool wd] 198)) (.cells #[.string (ba nm), .int .i64 sec, .bool false] 198) HZ2.out))
     obtain ⟨x20, x21, x22⟩ := HBX2.out
     obtain ⟨x30, x31, x32⟩ := HBX3.out
     by_cases hS : 0 ≤ sec
     ·have hl2 := H3.out.fir.look_ok Tryz.underlying194 (zero_bool ((w2.alloc (.cells #[.string (ba nm), .int .i64 sec, .bool wd] 198)).alloc (.cells #[.string (ba nm), .int .i64 sec, .bool false] 198))) (x := ⟨nm, sec, false⟩) (fits_spot (by have := HNM.out; omega) HSB.out.1 HSB.out.2)
      unfold spotK at hl2
      simp only [spotV] at hl2
      cases hF : firF O ⟨nm, sec, false⟩ with
      | some u =>
       rw [hF] at hl2
       have H4 := Lib.hid (H3.out.firKeep (o := ⟨⟨nm, sec, wd⟩, q2⟩) hF)
       have HBX4 := HBX3
       have HZ4 := HZ3
       clear hF
       have hl3 := H4.out.seen.look Tryz.underlying195 (zero_bool ((w2.alloc (.cells #[.string (ba nm), .int .i64 sec, .bool wd] 198)).alloc (.cells #[.string (ba nm), .int .i64 sec, .bool false] 198))) (x := nm) (by show nm.length ≤ maxLen; have := HNM.out; simp only [maxLen]; omega)
       rw [seen_bool] at hl3
       unfold strK at hl3
       obtain ⟨x40, x41, x42⟩ := HBX4.out
       by_cases hN : nm ∈ namesP O
       ·rw [decide_eq_true hN] at hl3
        have H5 := Lib.hid (H4.out.seenKeep (o := ⟨⟨nm, sec, wd⟩, q2⟩) hN)
        have HNS := Lib.hid (show namesP (O ++ [⟨⟨nm, sec, wd⟩, q2⟩]) = namesP O by rw [namesP_snoc, if_pos hN])
        clear hN
        go_wp2
        go_roundw
        case rel => exact ⟨k + 1, by omega, by go_num, Lib.hid ⟨c0, by have := HC0.out; omega, by rw [HO2.out, HNS.out]; exact H5.out⟩⟩
        case measure => simp [intOf] <;> omega
       ·rw [decide_eq_false hN] at hl3
        obtain ⟨W5, hr5, hs5, hg5⟩ := H4.out.seenPut (o := ⟨⟨nm, sec, wd⟩, q2⟩) hN (by have := HC0.out; simp only [maxLen]; omega) (by show nm.length ≤ maxLen; have := HNM.out; simp only [maxLen]; omega)
        have hr5b : (Instr.mapUpdate 195 (.map (some (w.heap.size + 2))) (.string (ba nm)) (.bool true)).run Tryz.prog ((w2.alloc (.cells #[.string (ba nm), .int .i64 sec, .bool wd] 198)).alloc (.cells #[.string (ba nm), .int .i64 sec, .bool false] 198)) = .ok () W5 := hr5
        have HBX5 := Lib.hid (HBX4.out.block (hg5.block w2.heap.size (by exact HZ4.out) (by have := HS2.out.size; simp; omega)))
        obtain ⟨x50, x51, x52⟩ := HBX5.out
        have H5 := Lib.hid hs5
        have HNS := Lib.hid (show namesP (O ++ [⟨⟨nm, sec, wd⟩, q2⟩]) = namesP O ++ [nm] by rw [namesP_snoc, if_neg hN])
        have HNL := Lib.hid (show (namesP O).length < 1099511627776 by have h1 := namesP_len O []; have h2 := HOLK.out; unfold namesP; simp only [List.length_nil] at h1; omega)
        clear hN hr5 hs5 hg5
        go_wp2_with (at_builtin; go_must (refine wpList_pushStr (W := W5) H5.out.own H5.out.size HNL.out rfl (.tmp 79) (.tmp 82) 37 1 rfl Tryz.underlying37 rfl (by show Value.slice (some ⟨W5.heap.size, 0, none⟩) 1 1 = _; simp) ?_); intro v6 w6 h1 h2 h3; (have H6 := Lib.hid (H5.out.push h1 h2); clear h1 h2 h3))
        go_roundw
        case rel => exact ⟨k + 1, by omega, by go_num, Lib.hid ⟨c0 + 1, by have := HC0.out; omega, by rw [HO2.out, HNS.out]; exact H6.out⟩⟩
        case measure => simp [intOf] <;> omega
      | none =>
       rw [hF] at hl2
       obtain ⟨W4, hr4, hs4, hg4⟩ := H3.out.firPut (o := ⟨⟨nm, sec, wd⟩, q2⟩) hF hS (by have := HC0.out; simp only [maxLen]; omega) (fits_spot (by have := HNM.out; show nm.length ≤ _; omega) HSB.out.1 HSB.out.2)
       have hr4b : (Instr.mapUpdate 194 (.map (some (w.heap.size + 1))) (.agg #[.string (ba nm), .int .i64 sec, .bool false]) (.bool wd)).run Tryz.prog ((w2.alloc (.cells #[.string (ba nm), .int .i64 sec, .bool wd] 198)).alloc (.cells #[.string (ba nm), .int .i64 sec, .bool false] 198)) = .ok () W4 := hr4
       have HBX4 := Lib.hid (HBX3.out.block (hg4.block w2.heap.size HZ3.out (by have := HS2.out.size; simp; omega)))
       have HZ4 := Lib.hid (show w2.heap.size < W4.heap.size from Nat.lt_of_lt_of_le HZ3.out hg4.size)
       have H4 := Lib.hid hs4
       clear hF hr4 hs4 hg4
       have hl3 := H4.out.seen.look Tryz.underlying195 (zero_bool W4) (x := nm) (by show nm.length ≤ maxLen; have := HNM.out; simp only [maxLen]; omega)
       rw [seen_bool] at hl3
       unfold strK at hl3
       obtain ⟨x40, x41, x42⟩ := HBX4.out
       by_cases hN : nm ∈ namesP O
       ·rw [decide_eq_true hN] at hl3
        have H5 := Lib.hid (H4.out.seenKeep (o := ⟨⟨nm, sec, wd⟩, q2⟩) hN)
        have HNS := Lib.hid (show namesP (O ++ [⟨⟨nm, sec, wd⟩, q2⟩]) = namesP O by rw [namesP_snoc, if_pos hN])
        clear hN
        go_wp2
        go_roundw
        case rel => exact ⟨k + 1, by omega, by go_num, Lib.hid ⟨c0 + 1, by have := HC0.out; omega, by rw [HO2.out, HNS.out]; exact H5.out⟩⟩
        case measure => simp [intOf] <;> omega
       ·rw [decide_eq_false hN] at hl3
        obtain ⟨W5, hr5, hs5, hg5⟩ := H4.out.seenPut (o := ⟨⟨nm, sec, wd⟩, q2⟩) hN (by have := HC0.out; simp only [maxLen]; omega) (by show nm.length ≤ maxLen; have := HNM.out; simp only [maxLen]; omega)
        have hr5b : (Instr.mapUpdate 195 (.map (some (w.heap.size + 2))) (.string (ba nm)) (.bool true)).run Tryz.prog W4 = .ok () W5 := hr5
        have HBX5 := Lib.hid (HBX4.out.block (hg5.block w2.heap.size (by exact HZ4.out) (by have := HS2.out.size; simp; omega)))
        obtain ⟨x50, x51, x52⟩ := HBX5.out
        have H5 := Lib.hid hs5
        have HNS := Lib.hid (show namesP (O ++ [⟨⟨nm, sec, wd⟩, q2⟩]) = namesP O ++ [nm] by rw [namesP_snoc, if_neg hN])
        have HNL := Lib.hid (show (namesP O).length < 1099511627776 by have h1 := namesP_len O []; have h2 := HOLK.out; unfold namesP; simp only [List.length_nil] at h1; omega)
        clear hN hr5 hs5 hg5
        go_wp2_with (at_builtin; go_must (refine wpList_pushStr (W := W5) H5.out.own H5.out.size HNL.out rfl (.tmp 79) (.tmp 82) 37 1 rfl Tryz.underlying37 rfl (by show Value.slice (some ⟨W5.heap.size, 0, none⟩) 1 1 = _; simp) ?_); intro v6 w6 h1 h2 h3; (have H6 := Lib.hid (H5.out.push h1 h2); clear h1 h2 h3))
        go_roundw
        case rel => exact ⟨k + 1, by omega, by go_num, Lib.hid ⟨c0 + 1 + 1, by have := HC0.out; omega, by rw [HO2.out, HNS.out]; exact H6.out⟩⟩
        case measure => simp [intOf] <;> omega
     ·have H4 := Lib.hid (H3.out.firSkip (o := ⟨⟨nm, sec, wd⟩, q2⟩) hS)
      have HBX4 := HBX3
      have HZ4 := HZ3
      have hl3 := H4.out.seen.look Tryz.underlying195 (zero_bool ((w2.alloc (.cells #[.string (ba nm), .int .i64 sec, .bool wd] 198)).alloc (.cells #[.string (ba nm), .int .i64 sec, .bool false] 198))) (x := nm) (by show nm.length ≤ maxLen; have := HNM.out; simp only [maxLen]; omega)
      rw [seen_bool] at hl3
      unfold strK at hl3
      obtain ⟨x40, x41, x42⟩ := HBX4.out
      by_cases hN : nm ∈ namesP O
      ·rw [decide_eq_true hN] at hl3
       have H5 := Lib.hid (H4.out.seenKeep (o := ⟨⟨nm, sec, wd⟩, q2⟩) hN)
       have HNS := Lib.hid (show namesP (O ++ [⟨⟨nm, sec, wd⟩, q2⟩]) = namesP O by rw [namesP_snoc, if_pos hN])
       clear hN
       go_wp2
       go_roundw
       case rel => exact ⟨k + 1, by omega, by go_num, Lib.hid ⟨c0, by have := HC0.out; omega, by rw [HO2.out, HNS.out]; exact H5.out⟩⟩
       case measure => simp [intOf] <;> omega
      ·rw [decide_eq_false hN] at hl3
       obtain ⟨W5, hr5, hs5, hg5⟩ := H4.out.seenPut (o := ⟨⟨nm, sec, wd⟩, q2⟩) hN (by have := HC0.out; simp only [maxLen]; omega) (by show nm.length ≤ maxLen; have := HNM.out; simp only [maxLen]; omega)
       have hr5b : (Instr.mapUpdate 195 (.map (some (w.heap.size + 2))) (.string (ba nm)) (.bool true)).run Tryz.prog ((w2.alloc (.cells #[.string (ba nm), .int .i64 sec, .bool wd] 198)).alloc (.cells #[.string (ba nm), .int .i64 sec, .bool false] 198)) = .ok () W5 := hr5
       have HBX5 := Lib.hid (HBX4.out.block (hg5.block w2.heap.size (by exact HZ4.out) (by have := HS2.out.size; simp; omega)))
       obtain ⟨x50, x51, x52⟩ := HBX5.out
       have H5 := Lib.hid hs5
       have HNS := Lib.hid (show namesP (O ++ [⟨⟨nm, sec, wd⟩, q2⟩]) = namesP O ++ [nm] by rw [namesP_snoc, if_neg hN])
       have HNL := Lib.hid (show (namesP O).length < 1099511627776 by have h1 := namesP_len O []; have h2 := HOLK.out; unfold namesP; simp only [List.length_nil] at h1; omega)
       clear hN hr5 hs5 hg5
       go_wp2_with (at_builtin; go_must (refine wpList_pushStr (W := W5) H5.out.own H5.out.size HNL.out rfl (.tmp 79) (.tmp 82) 37 1 rfl Tryz.underlying37 rfl (by show Value.slice (some ⟨W5.heap.size, 0, none⟩) 1 1 = _; simp) ?_); intro v6 w6 h1 h2 h3; (have H6 := Lib.hid (H5.out.push h1 h2); clear h1 h2 h3))
       go_roundw
       case rel => exact ⟨k + 1, by omega, by go_num, Lib.hid ⟨c0 + 1, by have := HC0.out; omega, by rw [HO2.out, HNS.out]; exact H6.out⟩⟩
       case measure => simp [intOf] <;> omega
    | none =>
     rw [hP] at hl1
     obtain ⟨W2, hr2, hs2, hg2⟩ := HX.out.parPut (o := ⟨⟨nm, sec, wd⟩, q2⟩) hP (by have := HC0.out; simp only [maxLen]; omega) (fits_spot (by have := HNM.out; show nm.length ≤ _; omega) HSB.out.1 HSB.out.2)
     have hr2b : (Instr.mapUpdate 193 (.map (some w.heap.size)) (.agg #[.string (ba nm), .int .i64 sec, .bool wd]) (.string (ba q2))).run Tryz.prog (w2.alloc (.cells #[.string (ba nm), .int .i64 sec, .bool wd] 198)) = .ok () W2 := hr2
     have HBX2 := Lib.hid (HBX1.out.block (hg2.block w2.heap.size (by simp) (by have := HS2.out.size; simp; omega)))
     have HZ2 := Lib.hid (show w2.heap.size < W2.heap.size from by have := hg2.size; simp at this; omega)
     have H2 := Lib.hid hs2
     clear hP hr2 hs2 hg2
     have H3 := Lib.hid (H2.out.below ((Below.refl _ _).alloc (Nat.le_refl _) (.cells #[.string (ba nm), .int .i64 sec, .bool false] 198)))
     have hz3 : w2.heap.size < (W2.alloc (.cells #[.string (ba nm), .int .i64 sec, .bool false] 198)).heap.size := by have := HZ2.out; simp at this ⊢; omega
     have HZ3 := Lib.hid hz3
     clear hz3
     have HBX3 := Lib.hid (HBX2.out.block (heap_alloc_old W2 (.cells #[.string (ba nm), .int .i64 sec, .bool false] 198) HZ2.out))
     obtain ⟨x20, x21, x22⟩ := HBX2.out
     obtain ⟨x30, x31, x32⟩ := HBX3.out
     by_cases hS : 0 ≤ sec
     ·have hl2 := H3.out.fir.look_ok Tryz.underlying194 (zero_bool (W2.alloc (.cells #[.string (ba nm), .int .i64 sec, .bool false] 198))) (x := ⟨nm, sec, false⟩) (fits_spot (by have := HNM.out; omega) HSB.out.1 HSB.out.2)
      unfold spotK at hl2
      simp only [spotV] at hl2
      cases hF : firF O ⟨nm, sec, false⟩ with
      | some u =>
       rw [hF] at hl2
       have H4 := Lib.hid (H3.out.firKeep (o := ⟨⟨nm, sec, wd⟩, q2⟩) hF)
       have HBX4 := HBX3
       have HZ4 := HZ3
       clear hF
       have hl3 := H4.out.seen.look Tryz.underlying195 (zero_bool (W2.alloc (.cells #[.string (ba nm), .int .i64 sec, .bool false] 198))) (x := nm) (by show nm.length ≤ maxLen; have := HNM.out; simp only [maxLen]; omega)
       rw [seen_bool] at hl3
       unfold strK at hl3
       obtain ⟨x40, x41, x42⟩ := HBX4.out
       by_cases hN : nm ∈ namesP O
       ·rw [decide_eq_true hN] at hl3
        have H5 := Lib.hid (H4.out.seenKeep (o := ⟨⟨nm, sec, wd⟩, q2⟩) hN)
        have HNS := Lib.hid (show namesP (O ++ [⟨⟨nm, sec, wd⟩, q2⟩]) = namesP O by rw [namesP_snoc, if_pos hN])
        clear hN
        go_wp2
        go_roundw
        case rel => exact ⟨k + 1, by omega, by go_num, Lib.hid ⟨c0 + 1, by have := HC0.out; omega, by rw [HO2.out, HNS.out]; exact H5.out⟩⟩
        case measure => simp [intOf] <;> omega
       ·rw [decide_eq_false hN] at hl3
        obtain ⟨W5, hr5, hs5, hg5⟩ := H4.out.seenPut (o := ⟨⟨nm, sec, wd⟩, q2⟩) hN (by have := HC0.out; simp only [maxLen]; omega) (by show nm.length ≤ maxLen; have := HNM.out; simp only [maxLen]; omega)
        have hr5b : (Instr.mapUpdate 195 (.map (some (w.heap.size + 2))) (.string (ba nm)) (.bool true)).run Tryz.prog (W2.alloc (.cells #[.string (ba nm), .int .i64 sec, .bool false] 198)) = .ok () W5 := hr5
        have HBX5 := Lib.hid (HBX4.out.block (hg5.block w2.heap.size (by exact HZ4.out) (by have := HS2.out.size; simp; omega)))
        obtain ⟨x50, x51, x52⟩ := HBX5.out
        have H5 := Lib.hid hs5
        have HNS := Lib.hid (show namesP (O ++ [⟨⟨nm, sec, wd⟩, q2⟩]) = namesP O ++ [nm] by rw [namesP_snoc, if_neg hN])
        have HNL := Lib.hid (show (namesP O).length < 1099511627776 by have h1 := namesP_len O []; have h2 := HOLK.out; unfold namesP; simp only [List.length_nil] at h1; omega)
        clear hN hr5 hs5 hg5
        go_wp2_with (at_builtin; go_must (refine wpList_pushStr (W := W5) H5.out.own H5.out.size HNL.out rfl (.tmp 79) (.tmp 82) 37 1 rfl Tryz.underlying37 rfl (by show Value.slice (some ⟨W5.heap.size, 0, none⟩) 1 1 = _; simp) ?_); intro v6 w6 h1 h2 h3; (have H6 := Lib.hid (H5.out.push h1 h2); clear h1 h2 h3))
        go_roundw
        case rel => exact ⟨k + 1, by omega, by go_num, Lib.hid ⟨c0 + 1 + 1, by have := HC0.out; omega, by rw [HO2.out, HNS.out]; exact H6.out⟩⟩
        case measure => simp [intOf] <;> omega
      | none =>
       rw [hF] at hl2
       obtain ⟨W4, hr4, hs4, hg4⟩ := H3.out.firPut (o := ⟨⟨nm, sec, wd⟩, q2⟩) hF hS (by have := HC0.out; simp only [maxLen]; omega) (fits_spot (by have := HNM.out; show nm.length ≤ _; omega) HSB.out.1 HSB.out.2)
       have hr4b : (Instr.mapUpdate 194 (.map (some (w.heap.size + 1))) (.agg #[.string (ba nm), .int .i64 sec, .bool false]) (.bool wd)).run Tryz.prog (W2.alloc (.cells #[.string (ba nm), .int .i64 sec, .bool false] 198)) = .ok () W4 := hr4
       have HBX4 := Lib.hid (HBX3.out.block (hg4.block w2.heap.size HZ3.out (by have := HS2.out.size; simp; omega)))
       have HZ4 := Lib.hid (show w2.heap.size < W4.heap.size from Nat.lt_of_lt_of_le HZ3.out hg4.size)
       have H4 := Lib.hid hs4
       clear hF hr4 hs4 hg4
       have hl3 := H4.out.seen.look Tryz.underlying195 (zero_bool W4) (x := nm) (by show nm.length ≤ maxLen; have := HNM.out; simp only [maxLen]; omega)
       rw [seen_bool] at hl3
       unfold strK at hl3
       obtain ⟨x40, x41, x42⟩ := HBX4.out
       by_cases hN : nm ∈ namesP O
       ·rw [decide_eq_true hN] at hl3
        have H5 := Lib.hid (H4.out.seenKeep (o := ⟨⟨nm, sec, wd⟩, q2⟩) hN)
        have HNS := Lib.hid (show namesP (O ++ [⟨⟨nm, sec, wd⟩, q2⟩]) = namesP O by rw [namesP_snoc, if_pos hN])
        clear hN
        go_wp2
        go_roundw
        case rel => exact ⟨k + 1, by omega, by go_num, Lib.hid ⟨c0 + 1 + 1, by have := HC0.out; omega, by rw [HO2.out, HNS.out]; exact H5.out⟩⟩
        case measure => simp [intOf] <;> omega
       ·rw [decide_eq_false hN] at hl3
        obtain ⟨W5, hr5, hs5, hg5⟩ := H4.out.seenPut (o := ⟨⟨nm, sec, wd⟩, q2⟩) hN (by have := HC0.out; simp only [maxLen]; omega) (by show nm.length ≤ maxLen; have := HNM.out; simp only [maxLen]; omega)
        have hr5b : (Instr.mapUpdate 195 (.map (some (w.heap.size + 2))) (.string (ba nm)) (.bool true)).run Tryz.prog W4 = .ok () W5 := hr5
        have HBX5 := Lib.hid (HBX4.out.block (hg5.block w2.heap.size (by exact HZ4.out) (by have := HS2.out.size; simp; omega)))
        obtain ⟨x50, x51, x52⟩ := HBX5.out
        have H5 := Lib.hid hs5
        have HNS := Lib.hid (show namesP (O ++ [⟨⟨nm, sec, wd⟩, q2⟩]) = namesP O ++ [nm] by rw [namesP_snoc, if_neg hN])
        have HNL := Lib.hid (show (namesP O).length < 1099511627776 by have h1 := namesP_len O []; have h2 := HOLK.out; unfold namesP; simp only [List.length_nil] at h1; omega)
        clear hN hr5 hs5 hg5
        go_wp2_with (at_builtin; go_must (refine wpList_pushStr (W := W5) H5.out.own H5.out.size HNL.out rfl (.tmp 79) (.tmp 82) 37 1 rfl Tryz.underlying37 rfl (by show Value.slice (some ⟨W5.heap.size, 0, none⟩) 1 1 = _; simp) ?_); intro v6 w6 h1 h2 h3; (have H6 := Lib.hid (H5.out.push h1 h2); clear h1 h2 h3))
        go_roundw
        case rel => exact ⟨k + 1, by omega, by go_num, Lib.hid ⟨c0 + 1 + 1 + 1, by have := HC0.out; omega, by rw [HO2.out, HNS.out]; exact H6.out⟩⟩
        case measure => simp [intOf] <;> omega
     ·have H4 := Lib.hid (H3.out.firSkip (o := ⟨⟨nm, sec, wd⟩, q2⟩) hS)
      have HBX4 := HBX3
      have HZ4 := HZ3
      have hl3 := H4.out.seen.look Tryz.underlying195 (zero_bool (W2.alloc (.cells #[.string (ba nm), .int .i64 sec, .bool false] 198))) (x := nm) (by show nm.length ≤ maxLen; have := HNM.out; simp only [maxLen]; omega)
      rw [seen_bool] at hl3
      unfold strK at hl3
      obtain ⟨x40, x41, x42⟩ := HBX4.out
      by_cases hN : nm ∈ namesP O
      ·rw [decide_eq_true hN] at hl3
       have H5 := Lib.hid (H4.out.seenKeep (o := ⟨⟨nm, sec, wd⟩, q2⟩) hN)
       have HNS := Lib.hid (show namesP (O ++ [⟨⟨nm, sec, wd⟩, q2⟩]) = namesP O by rw [namesP_snoc, if_pos hN])
       clear hN
       go_wp2
       go_roundw
       case rel => exact ⟨k + 1, by omega, by go_num, Lib.hid ⟨c0 + 1, by have := HC0.out; omega, by rw [HO2.out, HNS.out]; exact H5.out⟩⟩
       case measure => simp [intOf] <;> omega
      ·rw [decide_eq_false hN] at hl3
       obtain ⟨W5, hr5, hs5, hg5⟩ := H4.out.seenPut (o := ⟨⟨nm, sec, wd⟩, q2⟩) hN (by have := HC0.out; simp only [maxLen]; omega) (by show nm.length ≤ maxLen; have := HNM.out; simp only [maxLen]; omega)
       have hr5b : (Instr.mapUpdate 195 (.map (some (w.heap.size + 2))) (.string (ba nm)) (.bool true)).run Tryz.prog (W2.alloc (.cells #[.string (ba nm), .int .i64 sec, .bool false] 198)) = .ok () W5 := hr5
       have HBX5 := Lib.hid (HBX4.out.block (hg5.block w2.heap.size (by exact HZ4.out) (by have := HS2.out.size; simp; omega)))
       obtain ⟨x50, x51, x52⟩ := HBX5.out
       have H5 := Lib.hid hs5
       have HNS := Lib.hid (show namesP (O ++ [⟨⟨nm, sec, wd⟩, q2⟩]) = namesP O ++ [nm] by rw [namesP_snoc, if_neg hN])
       have HNL := Lib.hid (show (namesP O).length < 1099511627776 by have h1 := namesP_len O []; have h2 := HOLK.out; unfold namesP; simp only [List.length_nil] at h1; omega)
       clear hN hr5 hs5 hg5
       go_wp2_with (at_builtin; go_must (refine wpList_pushStr (W := W5) H5.out.own H5.out.size HNL.out rfl (.tmp 79) (.tmp 82) 37 1 rfl Tryz.underlying37 rfl (by show Value.slice (some ⟨W5.heap.size, 0, none⟩) 1 1 = _; simp) ?_); intro v6 w6 h1 h2 h3; (have H6 := Lib.hid (H5.out.push h1 h2); clear h1 h2 h3))
       go_roundw
       case rel => exact ⟨k + 1, by omega, by go_num, Lib.hid ⟨c0 + 1 + 1, by have := HC0.out; omega, by rw [HO2.out, HNS.out]; exact H6.out⟩⟩
       case measure => simp [intOf] <;> omega
  ·obtain rfl : k = n := by omega
   obtain ⟨c0, hc0, hst⟩ := HI.out
   rw [List.take_of_length_le (by rw [HN.out]; exact Nat.le_refl _)] at hst
   have HPAR := Lib.hid (show paramsP rs = (namesP (onesP rs)).filterMap (fun n => (valueP (onesP rs) n).map fun v => (n, v)) from rfl)
   obtain ⟨O, hO⟩ : ∃ O, onesP rs = O := ⟨_, rfl⟩
   rw [hO] at hst HPAR HOK HOL
   have HNMS := Lib.hid (show ∀ x ∈ namesP O, x.length ≤ 10000000 from fun x hx => by
    rcases namesP_mem O [] x hx with h | ⟨o, ho, rfl⟩
    ·cases h
    ·exact (HOK.out o ho).2)
   have HNL := Lib.hid (show (namesP O).length ≤ 1000000000 by have h1 := namesP_len O []; have h2 := HOL.out; have h3 := HN.out; unfold namesP; simp only [List.length_nil] at h1; omega)
   obtain ⟨f, hf⟩ : ∃ f : List UInt8 → Option (List UInt8 × List UInt8), (fun n => (valueP O n).map fun v => (n, v)) = f := ⟨_, rfl⟩
   have HF := Lib.hid (show ∀ n, f n = (valueP O n).map fun v => (n, v) from fun n => by rw [← hf])
   rw [hf] at HPAR
   obtain ⟨ns, hns⟩ : ∃ ns, namesP O = ns := ⟨_, rfl⟩
   rw [hns] at hst HPAR HNMS HNL
   obtain ⟨A5, c5, rfl, -, -, hS⟩ := hst.own.strs
   obtain ⟨m, hm⟩ : ∃ m, ns.length = m := ⟨_, rfl⟩
   have HML := Lib.hid hm
   rw [hm] at HNL hS ⊢
   have hmn := HNL.out
   have HSS := Lib.hid hS.2
   have HPM := Lib.hid (show PMaps wr O w.heap.size (w.heap.size + 1) from ⟨⟨c0, hst.par⟩, c0, hst.fir⟩)
   have HBW := Lib.hid hst.bel
   clear hO hf hns hm hst HI hc0 hS
   obtain ⟨w3, rfl⟩ : ∃ w3, w3 = wr := ⟨_, rfl⟩
   have HPS := Lib.hid HBW.out.size
   go_wp2
   go_loopw [17, 87] (fun v i wr => ∃ k : Nat, k ≤ m ∧ i = .int .i64 (k : Int) ∧ Hid (L2St w w3 f ns k v wr)) (fun _ i _ => m - (intOf i).toNat)
   case atStart => exact ⟨0, Nat.zero_le _, rfl, Lib.hid ⟨OwnPars.nil_ _ _, Below.refl _ _⟩⟩
   case round =>
    obtain ⟨j, hj, rfl, HL⟩ := hrel
    have hszj := HL.out.bel.size
    by_cases hjm : j < m
    ·have hj2 : (j : Int) < m := by omega
     have hjl : j < ns.length := by rw [HML.out]; exact hjm
     obtain ⟨ad5, u5, rfl, hbl5, hu5, hcell5⟩ := HSS.out.at_ (k := j) (by unfold sv; rw [List.length_map]; exact hjl)
     have hu6 : u5 = .string (ba ns[j]) := by
      unfold sv at hu5
      rw [List.getElem?_map, List.getElem?_eq_getElem hjl] at hu5
      injection hu5 with hu5
      exact hu5.symm
     subst hu6
     have hcell6 := (HL.out.bel.cell (p := ad5.add j) (by rw [add_block]; exact hbl5)).trans hcell5
     have hxl := HNMS.out _ (List.getElem_mem hjl)
     have HTK := Lib.hid (paramsP_take (f := f) hjl)
     obtain ⟨x, hx⟩ : ∃ x, ns[j] = x := ⟨_, rfl⟩
     rw [hx] at hcell6 hxl HTK
     have HVA := Lib.hid (value_any O x w.heap.size (w.heap.size + 1) wr (HPM.out.below HL.out.bel) (by omega) HOK.out (HT.out.below (HBW.out.trans (HL.out.bel.mono HPS.out))))
     unfold ValPost at HVA
     rw [HF.out] at HTK
     have HOWN := Lib.hid HL.out.own
     have HBL := Lib.hid HL.out.bel
     have HLN := Lib.hid (show ((ns.take j).filterMap f).length ≤ 1000000000 by
      have h1 := List.length_filterMap_le f (ns.take j)
      rw [List.length_take] at h1
      omega)
     clear hbl5 hu5 hcell5 hjl hxl hx HL
     cases hV : valueP O x with
     | none =>
      rw [hV] at HVA HTK
      clear hV
      go_wp2_with fail
      refine HVA.out.mono ?_
      rintro e w4 ⟨rfl, hb4⟩
      have HN4 := Lib.hid (show L2St w w3 f ns (j + 1) _ w4 from ⟨by rw [HTK.out]; simpa using HOWN.out.below hb4, HBL.out.trans (hb4.mono hszj)⟩)
      clear hb4
      go_wp2
      go_roundw
      case rel => exact ⟨j + 1, by omega, by go_num, HN4⟩
      case measure => simp [intOf] <;> omega
     | some y =>
      rw [hV] at HVA HTK
      clear hV
      go_wp2_with fail
      refine HVA.out.mono ?_
      rintro e w4 ⟨rfl, hb4⟩
      have HO4 := Lib.hid (HOWN.out.below hb4)
      have HB4 := Lib.hid (HBL.out.trans (hb4.mono hszj))
      have hs4 : w3.heap.size ≤ w4.heap.size := HB4.out.size
      clear hb4
      go_wp2_with (at_builtin; go_must (refine wpList_pushPar (W := w4) HO4.out hs4 trivial HLN.out rfl (.tmp 99) (.tmp 103) 1 rfl rfl (by show Value.slice (some ⟨w4.heap.size, 0, none⟩) 1 1 = _; simp) ?_); intro v6 w6 h1 h2; (have HN6 := Lib.hid (show L2St w w3 f ns (j + 1) v6 w6 from ⟨by rw [HTK.out]; exact h1, HB4.out.grown h2 hs4 fun q e => (HO4.out.row.lt q e).1⟩); clear h1 h2))
      go_roundw
      case rel => exact ⟨j + 1, by omega, by go_num, HN6⟩
      case measure => simp [intOf] <;> omega
    ·obtain rfl : j = m := by omega
     have HL9 := Lib.hid (show OwnPars wr w3.heap.size _ (paramsP rs) by
      rw [HPAR.out]
      have := HL.out.own
      rw [List.take_of_length_le (by rw [HML.out]; exact Nat.le_refl _)] at this
      exact this)
     have HB9 := Lib.hid (HBW.out.trans (HL.out.bel.mono HPS.out))
     clear HL
     go_wp2
     go_ret
     exact ⟨_, rfl, HL9.out.more HPS.out, HB9.out⟩
end Go.Proofs.YthidbmeaccpjdaaGreatDoor
