/- Layer 34: the reference's counts and places. -/
import Derived.Test.YtfinpehbpcckaaaGreatDoorRBuildP
import Derived.Test.YtfinpehbpcckaaaGreatDoorRSegC
import Derived.Test.YtfinpehbpcckaaaGreatDoorEntT
namespace Go.Proofs.YtfinpehbpcckaaaGreatDoor
open Go.RowKit
set_option linter.unusedVariables false

def CntRel (w : World) (es : List Ent) (k : Nat) (v : Value) (wr : World) : Prop := OwnEnts wr w.heap.size v (usedE (es.take k)) ∧ Below w.heap.size w wr
def CountsBack (w : World) (es : List Ent) (e : Ending) (w' : World) : Prop := ∃ v, e = .returned v ∧ OwnEnts w' w.heap.size v (usedE es) ∧ Below w.heap.size w w'
theorem countsP_in (d f : Int) : countsP d f = (inB d 1 1099511627776 && inB f 1 5) := by
  unfold countsP inB far
  rw [Bool.eq_iff_iff, decide_eq_true_iff, Bool.and_eq_true, decide_eq_true_iff, decide_eq_true_iff]
set_option maxRecDepth 100000 in
set_option maxHeartbeats 8000000 in
theorem rcounts_any (A : Option Addr) (n c : Nat) (es : List Ent) (w : World) (h : Ents w w.heap.size A n es) (hn : n ≤ 1000000) :
    Calls Tryz.prog 39 #[.slice A n c] w (CountsBack w es) := by
  have H := Lib.hid h
  have HN := Lib.hid h.len
  clear h
  go_enter Tryz.func39, Tryz.ntmps39
  go_wp2
  go_loopw [3, 4] (fun v0 i wr => ∃ (k : Nat) (v : Value), v = v0 ∧ k ≤ n ∧ i = .int .i64 (k : Int) ∧ Hid (CntRel w es k v wr)) (fun _ i _ => n - (intOf i).toNat)
  case atStart => exact ⟨0, _, rfl, Nat.zero_le _, rfl, OwnEnts.nil_ _ _, Below.refl _ _⟩
  case round =>
    obtain ⟨k, v, rfl, hk, rfl, HR⟩ := hrel
    have hsz := HR.out.2.size
    by_cases hlt : k < n
    · have hk2 : (k : Int) < n := by omega
      have hk0 : (0 : Int) ≤ (k : Int) := by omega
      have hkl : k < es.length := by rw [HN.out]; exact hlt
      have HE := Lib.hid (H.out.below HR.out.2)
      obtain ⟨ad, rfl, hbl, c0, c1, c2, hfit⟩ := HE.out.2 k hkl
      have hut := used_take hkl
      have hes := fun j (hj : j < es.length) => earlier_succ hj hkl
      obtain ⟨e, he⟩ : ∃ e, es[k] = e := ⟨_, rfl⟩
      rw [he] at c0 c1 c2 hut hfit
      simp only [he] at hes
      have HEK := Lib.hid he
      obtain ⟨d, f, x⟩ := e
      dsimp only at c0 c1 c2 hut hfit hes
      have HUT := Lib.hid hut
      have HES := Lib.hid hes
      have HFIT := Lib.hid hfit
      have HKL := Lib.hid hkl
      clear hut hes hfit he c0 c1 c2
      obtain ⟨W1, rfl⟩ : ∃ W1, W1 = wr := ⟨_, rfl⟩
      have HAT := Lib.hid (fun (wq : World) (hq : ∃ q, wq = W1.drewN q) (j : Nat) (hj : j < es.length) => show wq.cell? (ad.add (j * 3)) = some (.int .i64 es[j].doc) ∧ wq.cell? ⟨(ad.add (j * 3)).block, (ad.add (j * 3)).off + 1, none⟩ = some (.int .i64 es[j].field) ∧ wq.cell? ⟨(ad.add (j * 3)).block, (ad.add (j * 3)).off + 2, none⟩ = some (.string (ba es[j].text)) from by
        obtain ⟨q, rfl⟩ := hq
        obtain ⟨ad', e', _, q0, q1, q2, _⟩ := HE.out.2 j hj
        injection e' with e'
        subst e'
        exact ⟨q0, q1, q2⟩)
      go_wp2
      go_loopw [5, 6] (fun hd i wr => ∃ (j : Nat) (b : Bool), j ≤ k ∧ i = .int .i64 (j : Int) ∧ hd = .bool b ∧ Hid (b = earlier es k j) ∧ Hid (∃ q, wr = W1.drewN q)) (fun _ i _ => k - (intOf i).toNat)
      case atStart => exact ⟨0, false, Nat.zero_le _, rfl, rfl, Lib.hid (earlier_zero es k).symm, Lib.hid ⟨0, rfl⟩⟩
      case round =>
        obtain ⟨j, b, hj, rfl, rfl, HBE, HW⟩ := hrel
        have hkk := HAT.out wr HW.out k HKL.out
        rw [HEK.out] at hkk
        dsimp only at hkk
        obtain ⟨c0, c1, c2⟩ := hkk
        by_cases hjk : j < k
        · have hj2 : (j : Int) < k := by omega
          have hj0 : (0 : Int) ≤ (j : Int) := by omega
          have hjn : (j : Int) < n := by omega
          have hjl : j < es.length := by rw [HN.out]; omega
          obtain ⟨q0, q1, -⟩ := HAT.out wr HW.out j hjl
          have hej := HES.out j hjl
          obtain ⟨d', hd'⟩ : ∃ z, es[j].doc = z := ⟨_, rfl⟩
          obtain ⟨f', hf'⟩ : ∃ z, es[j].field = z := ⟨_, rfl⟩
          rw [hd'] at q0 hej
          rw [hf'] at q1 hej
          rw [← HBE.out] at hej
          have HEJ := Lib.hid hej
          clear hd' hf' hej hjl c2
          cases b
          · by_cases e1 : d' = d
            · have g1 : (d' == d) = true := by simpa using e1
              by_cases e2 : f' = f
              · have g2 : (f' == f) = true := by simpa using e2
                have HF := Lib.hid (show true = earlier es k (j + 1) by rw [HEJ.out]; simp [e1, e2])
                clear e1 e2
                go_wp2
                go_quiet (fail)
                go_wp2
                go_roundw
                case rel => exact ⟨j + 1, true, by omega, by go_num, rfl, HF, Lib.hid (by obtain ⟨q, rfl⟩ := HW.out; exact ⟨_, World.drewN_drewN W1 q nq⟩)⟩
                case measure => simp [intOf] <;> omega
              · have g2 : (f' == f) = false := by simpa using e2
                have HF := Lib.hid (show false = earlier es k (j + 1) by rw [HEJ.out]; simp [e2])
                clear e1 e2
                go_wp2
                go_quiet (fail)
                go_wp2
                go_roundw
                case rel => exact ⟨j + 1, false, by omega, by go_num, rfl, HF, Lib.hid (by obtain ⟨q, rfl⟩ := HW.out; exact ⟨_, World.drewN_drewN W1 q nq⟩)⟩
                case measure => simp [intOf] <;> omega
            · have g1 : (d' == d) = false := by simpa using e1
              have HF := Lib.hid (show false = earlier es k (j + 1) by rw [HEJ.out]; simp [e1])
              clear e1
              go_wp2
              go_quiet (fail)
              go_wp2
              go_roundw
              case rel => exact ⟨j + 1, false, by omega, by go_num, rfl, HF, Lib.hid (by obtain ⟨q, rfl⟩ := HW.out; exact ⟨_, World.drewN_drewN W1 q nq⟩)⟩
              case measure => simp [intOf] <;> omega
          · have HF := Lib.hid (show true = earlier es k (j + 1) by rw [HEJ.out]; rfl)
            go_wp2
            go_quiet (fail)
            go_wp2
            go_roundw
            case rel => exact ⟨j + 1, true, by omega, by go_num, rfl, HF, Lib.hid (by obtain ⟨q, rfl⟩ := HW.out; exact ⟨_, World.drewN_drewN W1 q nq⟩)⟩
            case measure => simp [intOf] <;> omega
        · obtain rfl : j = k := by omega
          have HBW := Lib.hid (show Below w.heap.size w wr by obtain ⟨q, rfl⟩ := HW.out; exact Below.drewN HR.out.2 q)
          have HOW := Lib.hid (show OwnEnts wr w.heap.size v (usedE (es.take j)) by obtain ⟨q, rfl⟩ := HW.out; exact HR.out.1.block fun _ _ => rfl)
          have hszw := HBW.out.size
          have HCI := Lib.hid (countsP_in d f)
          cases b
          · by_cases e1 : 1 ≤ d ∧ d ≤ 1099511627776
            · have HI1 := Lib.hid (show inB d 1 1099511627776 = true from decide_eq_true e1)
              by_cases e2 : 1 ≤ f ∧ f ≤ 5
              · have HI2 := Lib.hid (show inB f 1 5 = true from decide_eq_true e2)
                have HNX := Lib.hid (show usedE (es.take (j + 1)) = usedE (es.take j) ++ [⟨d, f, x⟩] by
                  rw [HUT.out, if_pos ⟨by rw [HCI.out, HI1.out, HI2.out]; rfl, HBE.out.symm⟩])
                have HLEN := Lib.hid (show (usedE (es.take j)).length ≤ 1000000000 by
                  have := usedE_len (es.take j) []
                  rw [List.length_take] at this
                  unfold usedE
                  simp at this
                  omega)
                clear e1 e2
                go_wp2_with fail
                refine (rin_eq d 1 1099511627776 true _ HI1.out).mono ?_
                rintro e w6 ⟨rfl, rfl⟩
                go_wp2_with fail
                refine (rin_eq f 1 5 true _ HI2.out).mono ?_
                rintro e w6 ⟨rfl, rfl⟩
                go_wp2_with (refine wpList_pushEnt HOW.out hszw HFIT.out HLEN.out rfl (.tmp 63) (.tmp 68) 1 rfl rfl rfl ?_)
                intro v' w8 hown8 hg8
                have HST := Lib.hid (show CntRel w es (j + 1) v' w8 from ⟨by rw [HNX.out]; exact hown8, HBW.out.grown hg8 hszw (fun i e => (HOW.out.row.lt i e).1)⟩)
                clear hown8 hg8
                go_wp2
                go_roundw
                case rel => exact ⟨j + 1, _, rfl, by omega, by go_num, HST⟩
                case measure => simp [intOf] <;> omega
              · have HI2 := Lib.hid (show inB f 1 5 = false from decide_eq_false e2)
                have HST := Lib.hid (show CntRel w es (j + 1) v wr from ⟨by rw [HUT.out, if_neg (fun h => by have := h.1; rw [HCI.out, HI2.out, Bool.and_false] at this; cases this)]; exact HOW.out, HBW.out⟩)
                clear e1 e2
                go_wp2_with fail
                refine (rin_eq d 1 1099511627776 true _ HI1.out).mono ?_
                rintro e w6 ⟨rfl, rfl⟩
                go_wp2_with fail
                refine (rin_eq f 1 5 false _ HI2.out).mono ?_
                rintro e w6 ⟨rfl, rfl⟩
                go_wp2
                go_roundw
                case rel => exact ⟨j + 1, _, rfl, by omega, by go_num, HST⟩
                case measure => simp [intOf] <;> omega
            · have HI1 := Lib.hid (show inB d 1 1099511627776 = false from decide_eq_false e1)
              have HST := Lib.hid (show CntRel w es (j + 1) v wr from ⟨by rw [HUT.out, if_neg (fun h => by have := h.1; rw [HCI.out, HI1.out, Bool.false_and] at this; cases this)]; exact HOW.out, HBW.out⟩)
              clear e1
              go_wp2_with fail
              refine (rin_eq d 1 1099511627776 false _ HI1.out).mono ?_
              rintro e w6 ⟨rfl, rfl⟩
              go_wp2
              go_roundw
              case rel => exact ⟨j + 1, _, rfl, by omega, by go_num, HST⟩
              case measure => simp [intOf] <;> omega
          · have HST := Lib.hid (show CntRel w es (j + 1) v wr from ⟨by rw [HUT.out, if_neg (fun h => by have := h.2; rw [← HBE.out] at this; cases this)]; exact HOW.out, HBW.out⟩)
            go_wp2
            go_roundw
            case rel => exact ⟨j + 1, _, rfl, by omega, by go_num, HST⟩
            case measure => simp [intOf] <;> omega
    · obtain rfl : k = n := by omega
      have HF := Lib.hid (show usedE (es.take k) = usedE es by rw [List.take_of_length_le (by rw [HN.out]; exact Nat.le_refl _)])
      have HRR := Lib.hid HR.out
      clear HR
      go_wp2
      go_ret
      exact ⟨_, rfl, by have := HRR.out.1; rw [HF.out] at this; exact this, HRR.out.2⟩

theorem idxs_take {w : List UInt8} {L : List (List UInt8)} {k : Nat} (hk : k < L.length) : idxs w (L.take (k + 1)) = idxs w (L.take k) ++ (if L[k] = w then [(k : Int)] else []) := by
  unfold idxs
  rw [List.take_succ_eq_append_getElem hk, List.zipIdx_append, List.filter_append, List.map_append]
  congr 1
  rw [List.length_take, Nat.min_eq_left (by omega)]
  by_cases h : L[k] = w
  · simp [h]
  · simp [h]
def PlRel (w : World) (x : List UInt8) (L : List (List UInt8)) (k : Nat) (v : Value) (wr : World) : Prop := OwnInts wr w.heap.size v (idxs x (L.take k)) ∧ Below w.heap.size w wr
def IdxBack (w : World) (l : List Int) (e : Ending) (w' : World) : Prop := ∃ v, e = .returned v ∧ OwnInts w' w.heap.size v l ∧ Below w.heap.size w w'
set_option maxRecDepth 100000 in
set_option maxHeartbeats 8000000 in
theorem rplaces_any (t x : List UInt8) (w : World) (ht : t.length ≤ 100000000) :
    Calls Tryz.prog 43 #[.string (ba t), .string (ba x)] w (IdxBack w (idxs x (listP t))) := by
  have HLL := Lib.hid (list_few t)
  go_enter Tryz.func43, Tryz.ntmps43
  go_wp2_with fail
  refine (rlist_any t w ht).mono ?_
  rintro e w1 ⟨v1, rfl, hv1, hb1⟩
  obtain ⟨L, hL⟩ : ∃ L, listP t = L := ⟨_, rfl⟩
  rw [hL] at hv1 HLL ⊢
  obtain ⟨A, c, rfl, hc1, hc2, hs⟩ := hv1.strs
  obtain ⟨n, hn⟩ : ∃ n, L.length = n := ⟨_, rfl⟩
  rw [hn] at hs HLL hc1 ⊢
  have HN := Lib.hid hn
  have HLE := Lib.hid hL
  have HS := Lib.hid hs
  have HB1 := Lib.hid hb1
  have hs1 := hb1.size
  have hn9 : n ≤ 100000000 := by have := HLL.out; omega
  have HXE := Lib.hid (fun (y : List UInt8) => show ((ba y).toList == (ba x).toList) = decide (y = x) by rw [ba_toList, ba_toList, Bool.eq_iff_iff, beq_iff_eq, decide_eq_true_iff])
  obtain ⟨xb, hxb⟩ : ∃ xb, ba x = xb := ⟨_, rfl⟩
  rw [hxb] at HXE ⊢
  clear hL hv1 hn hs hb1 hxb
  go_wp2
  go_loopw [6, 7] (fun v0 i wr => ∃ (k : Nat) (v : Value), v = v0 ∧ k ≤ n ∧ i = .int .i64 (k : Int) ∧ Hid (PlRel w1 x L k v wr)) (fun _ i _ => n - (intOf i).toNat)
  case atStart => exact ⟨0, _, rfl, Nat.zero_le _, rfl, OwnInts.nil_ _ _, Below.refl _ _⟩
  case round =>
    obtain ⟨k, v, rfl, hk, rfl, HR⟩ := hrel
    have hsz := HR.out.2.size
    by_cases hlt : k < n
    · have hk2 : (k : Int) < n := by omega
      have hk0 : (0 : Int) ≤ (k : Int) := by omega
      have hkl : k < L.length := by rw [HN.out]; exact hlt
      obtain ⟨ad, rfl, hbl, c0⟩ := (HS.out.below HR.out.2).at_ hkl
      have hit := idxs_take (w := x) hkl
      obtain ⟨y, hy⟩ : ∃ y, L[k] = y := ⟨_, rfl⟩
      rw [hy] at c0 hit
      have hxe := HXE.out y
      have HIT := Lib.hid hit
      obtain ⟨yb, hyb⟩ : ∃ yb, ba y = yb := ⟨_, rfl⟩
      rw [hyb] at c0 hxe
      clear hit hy hyb hkl
      by_cases e : y = x
      · have e1 : (yb.toList == xb.toList) = true := by rw [hxe]; exact decide_eq_true e
        have HNX := Lib.hid (show idxs x (L.take (k + 1)) = idxs x (L.take k) ++ [(k : Int)] by rw [HIT.out, if_pos e])
        have HLEN := Lib.hid (show (idxs x (L.take k)).length < 1099511627776 by
          have := idxs_len x (L.take k)
          rw [List.length_take] at this
          omega)
        have hkb : -9223372036854775808 ≤ (k : Int) ∧ (k : Int) ≤ 9223372036854775807 := by omega
        clear e hxe
        go_wp2_with (at_builtin; refine wpList_push HR.out.1 hsz hkb HLEN.out rfl (.tmp 22) (.tmp 24) 26 1 rfl Tryz.underlying26 rfl rfl ?_)
        intro v' w8 hown8 hg8 hat8
        have HST := Lib.hid (show PlRel w1 x L (k + 1) v' w8 from ⟨by rw [HNX.out]; exact hown8, HR.out.2.grown hg8 hsz (fun i e => HR.out.1.base i e)⟩)
        clear hown8 hg8 hat8
        go_wp2
        go_roundw
        case rel => exact ⟨k + 1, _, rfl, by omega, by go_num, HST⟩
        case measure => simp [intOf] <;> omega
      · have e1 : (yb.toList == xb.toList) = false := by rw [hxe]; exact decide_eq_false e
        have HST := Lib.hid (show PlRel w1 x L (k + 1) v wr from ⟨by rw [HIT.out, if_neg e, List.append_nil]; exact HR.out.1, HR.out.2⟩)
        clear e hxe
        go_wp2
        go_roundw
        case rel => exact ⟨k + 1, _, rfl, by omega, by go_num, HST⟩
        case measure => simp [intOf] <;> omega
    · obtain rfl : k = n := by omega
      have HF := Lib.hid (show idxs x (L.take k) = idxs x L by rw [List.take_of_length_le (by rw [HN.out]; exact Nat.le_refl _)])
      have HRR := Lib.hid HR.out
      clear HR
      go_wp2
      go_ret
      refine ⟨_, rfl, ?_, HB1.out.trans (HRR.out.2.mono hs1)⟩
      have := HRR.out.1
      rw [HF.out] at this
      rw [HLE.out]
      exact this.more hs1
end Go.Proofs.YtfinpehbpcckaaaGreatDoor
