/- Reference 12: the contract of List. -/
import Derived.Test.YtnpgnohlcphfnaaGreatDoorRPair
import Derived.Test.YtnpgnohlcphfnaaGreatDoorRVal
import Derived.Test.YtnpgnohlcphfnaaGreatDoorM14
namespace Go.Proofs.YtnpgnohlcphfnaaGreatDoor
open Go.RowKit
set_option linter.unusedVariables false

theorem ronesP_take {rs : List (List Tok)} {k : Nat} (hk : k < rs.length) : onesP (rs.take (k + 1)) = onesP (rs.take k) ++ (if (pairP rs[k]).1 = [] then [] else [⟨whereP (pairP rs[k]).1, (pairP rs[k]).2⟩]) := onesP_take hk
theorem names_keep : ∀ (ones : List One1) (a : List (List UInt8)) (x : List UInt8), x ∈ a → x ∈ ones.foldl (fun a x => if x.at_.name ∈ a then a else a ++ [x.at_.name]) a
  | [], a, x, h => h
  | o :: r, a, x, h => by
    rw [List.foldl_cons]
    refine names_keep r _ x ?_
    split
    · exact h
    · exact List.mem_append_left _ h
theorem names_all : ∀ (ones : List One1) (a : List (List UInt8)) (o : One1), o ∈ ones → o.at_.name ∈ ones.foldl (fun a x => if x.at_.name ∈ a then a else a ++ [x.at_.name]) a
  | p :: r, a, o, h => by
    rw [List.foldl_cons]
    rcases List.mem_cons.1 h with h | h
    · subst h
      refine names_keep r _ _ ?_
      split
      · assumption
      · exact List.mem_append_right _ (by simp)
    · exact names_all r _ o h
theorem mem_names (ones : List One1) (x : List UInt8) : x ∈ namesP ones ↔ ∃ o ∈ ones, o.at_.name = x := by
  constructor
  · intro h
    rcases namesP_mem ones [] x h with h | h
    · cases h
    · exact h
  · rintro ⟨o, ho, rfl⟩
    exact names_all ones [] o ho
theorem names_take {ones : List One1} {k : Nat} (hk : k < ones.length) : namesP (ones.take (k + 1)) = if ones[k].at_.name ∈ namesP (ones.take k) then namesP (ones.take k) else namesP (ones.take k) ++ [ones[k].at_.name] := by
  rw [List.take_succ_eq_append_getElem hk, namesP_snoc]
/-- Of the first j ones none bears the name. -/
def newB (ones : List One1) (x : List UInt8) (j : Nat) : Bool := (ones.take j).all fun o => decide (o.at_.name ≠ x)
theorem newB_step {ones : List One1} {x : List UInt8} {j : Nat} (hj : j < ones.length) : newB ones x (j + 1) = (newB ones x j && decide (ones[j].at_.name ≠ x)) := by
  unfold newB
  rw [List.take_succ_eq_append_getElem hj, List.all_append]
  simp
theorem newB_mem (ones : List One1) (x : List UInt8) (j : Nat) : newB ones x j = decide (¬ x ∈ namesP (ones.take j)) := by
  unfold newB
  rw [Bool.eq_iff_iff, List.all_eq_true, decide_eq_true_iff, mem_names]
  constructor
  · rintro h ⟨o, ho, e⟩
    have := h o ho
    rw [decide_eq_true_iff] at this
    exact this e
  · intro h o ho
    rw [decide_eq_true_iff]
    exact fun e => h ⟨o, ho, e⟩
/-- The states of List's loops. -/
def RL1 (w : World) (rs : List (List Tok)) (k : Nat) (v : Value) (wr : World) : Prop := OwnOnes wr w.heap.size v (onesP (rs.take k)) ∧ Below w.heap.size w wr
def RL2 (w3 : World) (f : List UInt8 → Option (List UInt8 × List UInt8)) (O : List One1) (k : Nat) (v : Value) (wr : World) : Prop := OwnPars wr w3.heap.size v ((namesP (O.take k)).filterMap f) ∧ Below w3.heap.size w3 wr
theorem OwnOnes.grown {w : World} {B : Nat} {v : Value} {ts : List One1} (h : OwnOnes w B v ts) : ∀ q, v.ownBlock = some q → B ≤ q := fun q e => (h.row.lt q e).1
theorem spot_bad {x : One1} (n v : List UInt8) (h : x = ⟨whereP n, v⟩) : OneOk x := by
  subst h
  have := whereP_sec n
  exact ⟨by show (-9223372036854775808 : Int) ≤ (whereP n).section_; omega, by show (whereP n).section_ ≤ (9223372036854775807 : Int); omega⟩
set_option maxRecDepth 100000 in
set_option maxHeartbeats 4000000 in
theorem rlist_any (rs : List (List Tok)) (A : Option Addr) (n c : Nat) (w : World) (hR : RowsIn w w.heap.size A n rs) (hn : n ≤ 1000000000) (hj : ∀ r ∈ rs, (joinP r).length ≤ 10000000 ∧ r.length ≤ 1000000000) :
    Calls Tryz.prog 40 #[.slice A n c] w (ListPost w (paramsP rs)) := by
  have HR := Lib.hid hR
  have HJ := Lib.hid hj
  have HN := Lib.hid hR.len
  have HOK := Lib.hid (onesP_ok (fun r h => (hj r h).1))
  have HOL := Lib.hid (onesP_len rs)
  clear hR hj
  go_enter Tryz.func40, Tryz.ntmps40
  go_wp2
  go_loopw [3, 4, 5, 6] (fun v i x y wr => ∃ (k : Nat) (xa xb : Value), x = xa ∧ y = xb ∧ k ≤ n ∧ i = .int .i64 (k : Int) ∧ Hid (RL1 w rs k v wr)) (fun _ i _ _ _ => n - (intOf i).toNat)
  case atStart => exact ⟨0, _, _, rfl, rfl, Nat.zero_le _, rfl, Lib.hid ⟨OwnOnes.nil_ _ _, Below.refl _ _⟩⟩
  case round =>
    obtain ⟨k, xa, xb, rfl, rfl, hk, rfl, HI⟩ := hrel
    by_cases hlt : k < n
    · have hk2 : (k : Int) < n := by omega
      have hkl : k < rs.length := by rw [HN.out]; exact hlt
      have hsz := HI.out.2.size
      obtain ⟨ad, A', c', rfl, hbl, hcell, hcl, hcm, htk⟩ := HR.out.at_ hkl
      have hcell2 := (HI.out.2.cell (p := ad.add k) (by rw [add_block]; exact hbl)).trans hcell
      have htk2 := (htk.below HI.out.2).more hsz
      have HOT := Lib.hid (ronesP_take hkl)
      have hrj := HJ.out _ (List.getElem_mem hkl)
      obtain ⟨r, hr⟩ : ∃ r, rs[k] = r := ⟨_, rfl⟩
      rw [hr] at hcell2 hcl htk2 HOT hrj
      have HPA := Lib.hid (rpair_any r A' r.length c' wr htk2 hrj.2 hcl hcm (by omega))
      have HOLK := Lib.hid (show (onesP (rs.take k)).length ≤ 1000000000 by have := onesP_len (rs.take k); rw [List.length_take] at this; omega)
      have HOW := Lib.hid HI.out.1
      have HBL := Lib.hid HI.out.2
      unfold RPairPost at HPA
      obtain ⟨⟨q1, q2⟩, hq⟩ : ∃ q, pairP r = q := ⟨_, rfl⟩
      rw [hq] at HPA HOT
      obtain ⟨O, hO⟩ : ∃ O, onesP (rs.take k) = O := ⟨_, rfl⟩
      rw [hO] at HOT HOLK HOW
      clear HI hr hq hcell htk htk2 hrj hcl hcm hbl hkl hO
      go_wp2_with fail
      refine HPA.out.mono ?_
      rintro e w1 ⟨x, b, rfl, hb1, hbb, hxx⟩
      have HXX := Lib.hid hxx
      have HBW1 := Lib.hid (HBL.out.trans (hb1.mono hsz))
      have HOW1 := Lib.hid (HOW.out.below hb1)
      clear hb1 hxx
      by_cases hemp : q1 = []
      · subst hemp
        have hbf : b = false := by rw [hbb]; simp
        subst hbf
        have HNX := Lib.hid (fun o => show RL1 w rs (k + 1) _ (w1.alloc o) from ⟨by rw [HOT.out, if_pos rfl, List.append_nil]; exact HOW1.out.below ((Below.refl _ _).alloc (Nat.le_refl _) o), HBW1.out.alloc HBW1.out.size o⟩)
        obtain ⟨⟨xn, xz, xw⟩, xv⟩ := x
        unfold oneV
        clear hbb
        go_wp2
        go_roundw
        case rel => exact ⟨k + 1, _, _, rfl, rfl, by omega, by go_num, Lib.hid (HNX.out _)⟩
        case measure => simp [intOf] <;> omega
      · have hbt : b = true := by rw [hbb]; simpa using hemp
        subst hbt
        have HX2 := Lib.hid (HXX.out hemp)
        have HO2 := Lib.hid (show onesP (rs.take (k + 1)) = O ++ [x] by rw [HOT.out, if_neg hemp, HX2.out])
        have HOKX := Lib.hid (spot_bad q1 q2 HX2.out)
        obtain ⟨⟨xn, xz, xw⟩, xv⟩ := x
        unfold oneV
        clear hbb hemp HXX HX2
        have HOW2 := Lib.hid (HOW1.out.below ((Below.refl _ _).alloc (Nat.le_refl _) (.cells #[.string (ba xn), .int .i64 xz, .bool xw, .string (ba xv)] 100)))
        have HBW2 := Lib.hid (HBW1.out.alloc HBW1.out.size (.cells #[.string (ba xn), .int .i64 xz, .bool xw, .string (ba xv)] 100))
        have HGB := Lib.hid (show ∀ q, Value.ownBlock _ = some q → w.heap.size ≤ q from HOW1.out.grown)
        go_wp2_with (at_builtin; go_must (refine wpList_pushOne (W := w1.alloc (.cells #[.string (ba xn), .int .i64 xz, .bool xw, .string (ba xv)] 100)) HOW2.out HBW2.out.size HOKX.out HOLK.out rfl (.tmp 28) (.tmp 30) 1 rfl rfl (by show Value.slice (some ⟨w1.heap.size + 1, 0, none⟩) 1 1 = _; simp) ?_); intro v6 w6 h1 h2; (have HN6 := Lib.hid (show RL1 w rs (k + 1) v6 w6 from ⟨by rw [HO2.out]; exact h1, HBW2.out.grown h2 HBW2.out.size fun q e => HGB.out q e⟩); clear h1 h2))
        go_roundw
        case rel => exact ⟨k + 1, _, _, rfl, rfl, by omega, by go_num, HN6⟩
        case measure => simp [intOf] <;> omega
    · obtain rfl : k = n := by omega
      have hst := HI.out
      unfold RL1 at hst
      rw [List.take_of_length_le (by rw [HN.out]; exact Nat.le_refl _)] at hst
      have HPAR := Lib.hid (show paramsP rs = (namesP (onesP rs)).filterMap (fun n => (valueP (onesP rs) n).map fun v => (n, v)) from rfl)
      have HOL1 := Lib.hid (show (onesP rs).length ≤ 1000000000 by have := HOL.out; have := HN.out; omega)
      obtain ⟨O, hO⟩ : ∃ O, onesP rs = O := ⟨_, rfl⟩
      rw [hO] at hst HPAR HOK HOL1
      obtain ⟨f, hf⟩ : ∃ f : List UInt8 → Option (List UInt8 × List UInt8), (fun n => (valueP O n).map fun v => (n, v)) = f := ⟨_, rfl⟩
      have HF := Lib.hid (show ∀ n, f n = (valueP O n).map fun v => (n, v) from fun n => by rw [← hf])
      rw [hf] at HPAR
      obtain ⟨A5, c5, rfl, -, -, hS⟩ := hst.1.reads
      obtain ⟨m, hm⟩ : ∃ m, O.length = m := ⟨_, rfl⟩
      have HML := Lib.hid hm
      rw [hm] at HOL1 hS ⊢
      have hmn := HOL1.out
      have HSS := Lib.hid hS
      have HBW := Lib.hid hst.2
      clear hO hf hm hst HI hS
      obtain ⟨w3, rfl⟩ : ∃ w3, w3 = wr := ⟨_, rfl⟩
      have HPS := Lib.hid HBW.out.size
      go_wp2
      go_loopw [7, 8, 9, 10, 11, 12] (fun v i x1 x2 x3 x4 wr => ∃ (k : Nat) (xa xb xc xd : Value), x1 = xa ∧ x2 = xb ∧ x3 = xc ∧ x4 = xd ∧ k ≤ m ∧ i = .int .i64 (k : Int) ∧ Hid (RL2 w3 f O k v wr)) (fun _ i _ _ _ _ _ => m - (intOf i).toNat)
      case atStart => exact ⟨0, _, _, _, _, rfl, rfl, rfl, rfl, Nat.zero_le _, rfl, Lib.hid ⟨OwnPars.nil_ _ _, Below.refl _ _⟩⟩
      case round =>
        obtain ⟨i, xa, xb, xc, xd, rfl, rfl, rfl, rfl, hi, rfl, HL⟩ := hrel
        have hszj := HL.out.2.size
        by_cases him : i < m
        · have hi2 : (i : Int) < m := by omega
          have hil : i < O.length := by rw [HML.out]; exact him
          have HIN := Lib.hid (HSS.out.below HL.out.2)
          obtain ⟨ad5, rfl, hbl5, i0, i1, i2, i3, -⟩ := HIN.out.2 i hil
          have HTK := Lib.hid (names_take hil)
          have HNB := Lib.hid (newB_mem O O[i].at_.name i)
          have HNS := Lib.hid (fun j (hj : j < O.length) => newB_step (x := O[i].at_.name) hj)
          obtain ⟨x, hx⟩ : ∃ x, O[i].at_.name = x := ⟨_, rfl⟩
          rw [hx] at i0 HTK HNB
          simp only [hx] at HNS
          have HI0 := Lib.hid (fun W (hb : Below w3.heap.size w3 W) => show W.cell? (ad5.add (i * 4)) = some (.string (ba x)) by
            obtain ⟨ad6, e6, -, d0, -⟩ := (HSS.out.below hb).2 i hil
            injection e6 with e6
            subst e6
            rw [hx] at d0
            exact d0)
          have HOWN := Lib.hid HL.out.1
          have HBL := Lib.hid HL.out.2
          clear i1 i2 i3 hbl5 hx HL
          go_wp2
          obtain ⟨w4, rfl⟩ : ∃ w4, w4 = wr := ⟨_, rfl⟩
          go_loopw [9, 10] (fun nw jj wr => ∃ (j : Nat), j ≤ i ∧ jj = .int .i64 (j : Int) ∧ nw = .bool (newB O x j) ∧ Hid (Below w4.heap.size w4 wr)) (fun _ jj _ => i - (intOf jj).toNat)
          case atStart => exact ⟨0, Nat.zero_le _, rfl, rfl, Lib.hid (Below.refl _ _)⟩
          case round =>
            obtain ⟨j, hji, rfl, rfl, HJB⟩ := hrel
            have HJW := Lib.hid (HBL.out.trans (HJB.out.mono hszj))
            have k0 := HI0.out wr HJW.out
            by_cases hjlt : j < i
            · have hj2 : (j : Int) < (i : Int) := by omega
              have hjm : (j : Int) < (m : Int) := by omega
              have hjl : j < O.length := by rw [HML.out]; omega
              have HST := Lib.hid (HNS.out j hjl)
              have d0 : wr.cell? (ad5.add (j * 4)) = some (.string (ba O[j].at_.name)) := by
                obtain ⟨ad6, e6, -, d0, -⟩ := (HSS.out.below HJW.out).2 j hjl
                injection e6 with e6
                subst e6
                exact d0
              obtain ⟨y, hy⟩ : ∃ y, O[j].at_.name = y := ⟨_, rfl⟩
              rw [hy] at d0 HST
              clear hy hjl
              cases hnb : newB O x j with
              | false =>
                rw [hnb] at HST
                have HS2 := Lib.hid (show newB O x (j + 1) = false by rw [HST.out]; rfl)
                clear hnb
                go_wp2
                go_quiet (fail)
                go_wp2
                go_roundw
                case rel => exact ⟨j + 1, by omega, by go_num, by rw [HS2.out], Lib.hid (by first | exact HJB.out | exact below_drewN HJB.out _ | exact HJB.out.drew)⟩
                case measure => simp [intOf] <;> omega
              | true =>
                rw [hnb] at HST
                clear hnb
                by_cases e1 : y = x
                · have HS2 := Lib.hid (show newB O x (j + 1) = false by rw [HST.out, e1]; simp)
                  have G1 := Lib.hid (show ((ba y).toList == (ba x).toList) = true by rw [ba_toList, ba_toList, e1]; simp)
                  clear e1
                  go_wp2
                  go_quiet (fail)
                  go_wp2
                  go_roundw
                  case rel => exact ⟨j + 1, by omega, by go_num, by rw [HS2.out, G1.out]; rfl, Lib.hid (by first | exact HJB.out | exact below_drewN HJB.out _ | exact HJB.out.drew)⟩
                  case measure => simp [intOf] <;> omega
                · have HS2 := Lib.hid (show newB O x (j + 1) = true by rw [HST.out]; simpa using e1)
                  have G1 := Lib.hid (show ((ba y).toList == (ba x).toList) = false by rw [ba_toList, ba_toList]; simpa using e1)
                  clear e1
                  go_wp2
                  go_quiet (fail)
                  go_wp2
                  go_roundw
                  case rel => exact ⟨j + 1, by omega, by go_num, by rw [HS2.out, G1.out]; rfl, Lib.hid (by first | exact HJB.out | exact below_drewN HJB.out _ | exact HJB.out.drew)⟩
                  case measure => simp [intOf] <;> omega
            · obtain rfl : j = i := by omega
              have HVA := Lib.hid (rval_any O x (some ad5) m c5 wr ((HSS.out.below HJW.out).more (HJW.out.size)) (by omega) HOK.out)
              unfold ValPost at HVA
              have HOW4 := Lib.hid (HOWN.out.below HJB.out)
              have HFX := Lib.hid (HF.out x)
              have hszr := HJW.out.size
              have HLN := Lib.hid (show ((namesP (O.take j)).filterMap f).length ≤ 1000000000 by
                have h1 := List.length_filterMap_le f (namesP (O.take j))
                have h2 := namesP_len (O.take j) []
                rw [List.length_take] at h2
                unfold namesP at h1 ⊢
                simp only [List.length_nil] at h2
                omega)
              obtain ⟨bn, hbn⟩ : ∃ b, newB O x j = b := ⟨_, rfl⟩
              rw [hbn] at HNB ⊢
              clear hbn
              cases hV : valueP O x with
              | none =>
                rw [hV] at HVA HFX
                have HNX := Lib.hid (fun W (hb : Below wr.heap.size wr W) => show RL2 w3 f O (j + 1) _ W from ⟨by
                  rw [HTK.out]
                  split
                  · exact HOW4.out.below hb
                  · rw [List.filterMap_append]
                    simp only [List.filterMap_cons, List.filterMap_nil]
                    rw [HFX.out]
                    simpa using HOW4.out.below hb, HJW.out.trans (hb.mono hszr)⟩)
                clear hV
                go_wp2_with fail
                refine HVA.out.mono ?_
                rintro e w5 ⟨rfl, hb5⟩
                have HN5 := Lib.hid (HNX.out _ hb5)
                clear hb5
                cases bn
                all_goals
                  go_wp2
                  go_roundw
                  case rel => exact ⟨j + 1, _, _, _, _, rfl, rfl, rfl, rfl, by omega, by go_num, HN5⟩
                  case measure => simp [intOf] <;> omega
              | some y =>
                rw [hV] at HVA HFX
                clear hV
                go_wp2_with fail
                refine HVA.out.mono ?_
                rintro e w5 ⟨rfl, hb5⟩
                have HB5 := Lib.hid hb5
                clear hb5
                cases bn with
                | false =>
                  have HN5 := Lib.hid (show RL2 w3 f O (j + 1) _ w5 from ⟨by
                    have hmem : x ∈ namesP (O.take j) := by simpa using HNB.out.symm
                    rw [HTK.out, if_pos hmem]
                    exact HOW4.out.below HB5.out, HJW.out.trans (HB5.out.mono hszr)⟩)
                  go_wp2
                  go_roundw
                  case rel => exact ⟨j + 1, _, _, _, _, rfl, rfl, rfl, rfl, by omega, by go_num, HN5⟩
                  case measure => simp [intOf] <;> omega
                | true =>
                  have HT5 := Lib.hid (show (namesP (O.take (j + 1))).filterMap f = (namesP (O.take j)).filterMap f ++ [(x, y)] by
                    have hmem : ¬ x ∈ namesP (O.take j) := by simpa using HNB.out.symm
                    rw [HTK.out, if_neg hmem, List.filterMap_append]
                    simp only [List.filterMap_cons, List.filterMap_nil]
                    rw [HFX.out]
                    rfl)
                  have HBW5 := Lib.hid (HJW.out.trans (HB5.out.mono hszr))
                  have k5 := HI0.out w5 HBW5.out
                  have HO5 := Lib.hid (HOW4.out.below HB5.out)
                  have hs5 : w3.heap.size ≤ w5.heap.size := HBW5.out.size
                  go_wp2_with (at_builtin; go_must (refine wpList_pushPar (W := w5) HO5.out hs5 trivial HLN.out rfl (.tmp 71) (.tmp 79) 1 rfl rfl (by show Value.slice (some ⟨w5.heap.size, 0, none⟩) 1 1 = _; simp) ?_); intro v6 w6 h1 h2; (have HN6 := Lib.hid (show RL2 w3 f O (j + 1) v6 w6 from ⟨by rw [HT5.out]; exact h1, HBW5.out.grown h2 hs5 fun q e => (HO5.out.row.lt q e).1⟩); clear h1 h2))
                  go_roundw
                  case rel => exact ⟨j + 1, _, _, _, _, rfl, rfl, rfl, rfl, by omega, by go_num, HN6⟩
                  case measure => simp [intOf] <;> omega
        · obtain rfl : i = m := by omega
          have HL9 := Lib.hid (show OwnPars wr w3.heap.size _ (paramsP rs) by
            rw [HPAR.out]
            have := HL.out.1
            rw [List.take_of_length_le (by rw [HML.out]; exact Nat.le_refl _)] at this
            exact this)
          have HB9 := Lib.hid (HBW.out.trans (HL.out.2.mono HPS.out))
          clear HL
          go_wp2
          go_ret
          exact ⟨_, rfl, HL9.out.more HPS.out, HB9.out⟩
end Go.Proofs.YtnpgnohlcphfnaaGreatDoor
