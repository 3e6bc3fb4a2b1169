/- Layer 37: the contract of means (printed by gen_qmeans.py). Layer 37: what the program's parser leaves; what a term holds while it runs. Layer 37: the parser's contracts; not. -/
import Derived.Test.YtomcdhmcjndioaaGreatDoorV14
import Derived.Test.YtomcdhmcjndioaaGreatDoorV19
import Derived.Test.YtomcdhmcjndioaaGreatDoorV11
section
namespace Go.Proofs.YtomcdhmcjndioaaGreatDoor
open Go.RowKit
set_option linter.unusedVariables false

theorem cutP_name : ∀ {t a b : List UInt8}, cutP 58 t = some (a, b) → nameQ t = a ∧ restQ t = b := fun {t a b} h => by
  obtain ⟨h1, h2⟩ := cutP_some h
  have hn : nameQ t = a := by
    unfold nameQ
    rw [h1, List.takeWhile_append_of_pos (fun c hc => by
      have : c ≠ 58 := fun e => h2 (e ▸ hc)
      simpa using this), List.takeWhile_cons_of_neg (by decide), List.append_nil]
  refine ⟨hn, ?_⟩
  unfold restQ
  rw [hn, h1, ← List.drop_drop, List.drop_left]
  rfl
/-- The box of a piece. -/
def QBox (w : World) (g : Nat) (t : ByteArray) (f : Int) (i j k : Int) : Prop := w.heap[g]? = some (.cells #[.int .i64 k, .int .i64 i, .int .i64 j, .string t, .int .i64 f, .bool false] 41 (0, 0))
theorem QBox.below {w w' : World} {g B : Nat} {i j k f : Int} {t : ByteArray} (h : QBox w g t f i j k) (hb : Below B w w') (hg : g < B) : QBox w' g t f i j k := (hb.block g hg).trans h
theorem QBox.text {w : World} {g : Nat} {i j k f : Int} {t : ByteArray} (h : QBox w g t f i j k) : w.cell? ⟨g, 3, none⟩ = some (.string t) := by
  unfold QBox at h
  rw [Lib.cell_of_heap h]
  rfl
theorem qbox_new (w : World) (i j k f : Int) (t : ByteArray) (o : Obj) : QBox ((w.alloc (.cells #[.int .i64 k, .int .i64 i, .int .i64 j, .string t, .int .i64 f, .bool false] 41)).alloc o) w.heap.size t f i j k :=
  (heap_alloc_old _ _ (by simp)).trans (MapKept.heap_alloc w _).1
set_option maxRecDepth 100000 in
set_option maxHeartbeats 4000000 in
theorem qmeans_quo (i j : Int) (t : List UInt8) (f : Nat) (w : World) (hl : t.length ≤ 1000000) (hf : f ≤ 100) (hT : QTabs w) :
    Calls Tryz.prog 75 #[.agg #[.int .i64 4, .int .i64 i, .int .i64 j, .string (ba t), .int .i64 (f : Int), .bool false]] w (LfPost w (textQ t f)) := by
  have HTX := Lib.hid (fun W hW => qtext_any t f W hl hf hW)
  have HT := Lib.hid hT
  have HB0 := Lib.hid (rb_below w (.cells #[.int .i64 4, .int .i64 i, .int .i64 j, .string (ba t), .int .i64 (f : Int), .bool false] 41) (.cells #[.int .i64 0, .int .i64 0, .string ⟨#[]⟩, .int .i64 0, .slice none 0 0] 25))
  have HZ0 := Lib.hid (rz_new w (.cells #[.int .i64 4, .int .i64 i, .int .i64 j, .string (ba t), .int .i64 (f : Int), .bool false] 41))
  have Z0 := Lib.hid (show w.heap.size + 1 < ((w.alloc (.cells #[.int .i64 4, .int .i64 i, .int .i64 j, .string (ba t), .int .i64 (f : Int), .bool false] 41)).alloc (.cells #[.int .i64 0, .int .i64 0, .string ⟨#[]⟩, .int .i64 0, .slice none 0 0] 25)).heap.size by simp)
  clear hT
  obtain ⟨O, hO⟩ : ∃ O, textQ t f = O := ⟨_, rfl⟩
  have HO := Lib.hid hO
  rw [hO]
  obtain ⟨fi, hfi⟩ : ∃ x : Int, (f : Int) = x := ⟨_, rfl⟩
  simp only [hfi] at HTX HB0 HZ0 Z0
  rw [hfi]
  clear hO hfi
  go_enter Tryz.func75, Tryz.ntmps75
  go_wp2_with fail
  refine (HTX.out _ (HT.out.below HB0.out)).mono ?_
  rintro e w1 ⟨op, fld, y, m, rfl, hb1, hq, hk⟩
  have HB1 := Lib.hid (HB0.out.trans (hb1.mono HB0.out.size))
  have HZ1 := Lib.hid (HZ0.out.below hb1 Z0.out)
  have z1 : w.heap.size + 1 < w1.heap.size := Nat.lt_of_lt_of_le Z0.out hb1.size
  have HQ := Lib.hid hq
  have HK := Lib.hid hk
  clear hb1 hq hk
  obtain ⟨r0, r1, r2, r3, r4, rf⟩ := HZ1.out.cells
  go_wp2
  refine bodyPost_ret (v := .tuple #[.agg #[.int .i64 op, .int .i64 fld, .string (ba y), .int .i64 m, .slice none 0 0], .bool (textQ t f).isSome]) (by simp [results, Tryz.results75, go_sem, r0, r1, r2, r3, r4]) rfl ?_
  refine lf_end (fun q h => HQ.out q (HO.out.trans h)) (by rw [← HO.out]) rfl ?_ HK.out
  repeat (first | (with_reducible exact HB1.out) | refine Below.setCell ?_ (by simp) _)
set_option maxRecDepth 100000 in
set_option maxHeartbeats 4000000 in
theorem qmeans_bare (i j : Int) (t : List UInt8) (w : World) (hl : t.length ≤ 1000000) (hT : QTabs w) :
    Calls Tryz.prog 75 #[.agg #[.int .i64 5, .int .i64 i, .int .i64 j, .string (ba t), .int .i64 0, .bool false]] w (LfPost w (meansQ t)) := by
  have HT := Lib.hid hT
  have HB0 := Lib.hid (rb_below w (.cells #[.int .i64 5, .int .i64 i, .int .i64 j, .string (ba t), .int .i64 0, .bool false] 41) (.cells #[.int .i64 0, .int .i64 0, .string ⟨#[]⟩, .int .i64 0, .slice none 0 0] 25))
  have HZ0 := Lib.hid (rz_new w (.cells #[.int .i64 5, .int .i64 i, .int .i64 j, .string (ba t), .int .i64 0, .bool false] 41))
  have Z0 := Lib.hid (show w.heap.size + 1 < ((w.alloc (.cells #[.int .i64 5, .int .i64 i, .int .i64 j, .string (ba t), .int .i64 0, .bool false] 41)).alloc (.cells #[.int .i64 0, .int .i64 0, .string ⟨#[]⟩, .int .i64 0, .slice none 0 0] 25)).heap.size by simp)
  clear hT
  have HX0 := Lib.hid (qbox_new w i j 5 0 (ba t) (.cells #[.int .i64 0, .int .i64 0, .string ⟨#[]⟩, .int .i64 0, .slice none 0 0] 25))
  have HPL := Lib.hid (fun x f (hx : x.length ≤ 1000000) (hf : f ≤ 100) W hW => qplain_any x f W hx hf hW)
  have HPT := Lib.hid (show ∀ W, QTabs W → Calls Tryz.prog 96 #[.string (ba t), .int .i64 0] W (LfPost W (plainQ t 0)) from fun W hW => qplain_any t 0 W hl (by omega) hW)
  have HCU := Lib.hid (fun W hW => cut_any 58 t W (by omega) hW)
  have HLT := Lib.hid hl
  obtain ⟨O, hO⟩ : ∃ O, meansQ t = O := ⟨_, rfl⟩
  have HO := Lib.hid hO
  rw [hO]
  clear hO
  unfold CutPost at HCU
  cases hc : cutP 58 t with
  | none =>
    have hno := cutP_none.1 hc
    have HCV := Lib.hid (show cutV 58 t = (t, [], false) by unfold cutV; rw [hc])
    have HE := Lib.hid ((meansQ_no hno).symm.trans HO.out)
    clear hc hno
    go_enter Tryz.func75, Tryz.ntmps75
    go_wp2_with fail
    refine (HCU.out _ (HT.out.below HB0.out)).mono ?_
    rintro e w' ⟨rfl, nq, rfl⟩
    rw [HCV.out]
    have HB1 := Lib.hid (bdN HB0.out nq)
    have HZ1 := Lib.hid (show QzAt (((w.alloc (.cells #[.int .i64 5, .int .i64 i, .int .i64 j, .string (ba t), .int .i64 0, .bool false] 41)).alloc (.cells #[.int .i64 0, .int .i64 0, .string ⟨#[]⟩, .int .i64 0, .slice none 0 0] 25)).drewN nq) (w.heap.size + 1) from HZ0.out)
    obtain ⟨w1, hw1⟩ : ∃ w1, ((w.alloc (.cells #[.int .i64 5, .int .i64 i, .int .i64 j, .string (ba t), .int .i64 0, .bool false] 41)).alloc (.cells #[.int .i64 0, .int .i64 0, .string ⟨#[]⟩, .int .i64 0, .slice none 0 0] 25)).drewN nq = w1 := ⟨_, rfl⟩
    have HX1 := Lib.hid (show QBox w1 w.heap.size (ba t) 0 i j 5 from by rw [← hw1]; exact HX0.out)
    have Z1 := Lib.hid (show w.heap.size + 1 < w1.heap.size from by rw [← hw1]; exact Z0.out)
    simp only [hw1] at HB1 HZ1
    rw [hw1]
    clear hw1
    have z1 := Z1.out
    have d1 := HX1.out.text
    go_wp2_with fail
    refine (HPT.out w1 (HT.out.below HB1.out)).mono ?_
    rintro e w2 ⟨op, fld, y, m, rfl, hb2, hq, hk⟩
    have HB2 := Lib.hid (HB1.out.trans (hb2.mono HB1.out.size))
    have HZ2 := Lib.hid (HZ1.out.below hb2 z1)
    have z2 : w.heap.size + 1 < w2.heap.size := Nat.lt_of_lt_of_le z1 hb2.size
    have HQ := Lib.hid hq
    have HK := Lib.hid hk
    clear hb2 hq hk
    obtain ⟨r0, r1, r2, r3, r4, rf⟩ := HZ2.out.cells
    go_wp2
    refine bodyPost_ret (v := .tuple #[.agg #[.int .i64 op, .int .i64 fld, .string (ba y), .int .i64 m, .slice none 0 0], .bool (plainQ t 0).isSome]) (by simp [results, Tryz.results75, go_sem, r0, r1, r2, r3, r4]) rfl ?_
    refine lf_end (fun q h => HQ.out q (HE.out.trans h)) (by rw [← HE.out]) rfl ?_ HK.out
    repeat (first | (with_reducible exact HB2.out) | refine Below.setCell ?_ (by simp) _)
  | some q =>
    obtain ⟨nm, rs⟩ := q
    obtain ⟨hn, hr⟩ := cutP_name hc
    have hin : 58 ∈ t := by rw [(cutP_some hc).1]; simp
    have HIN := Lib.hid hin
    have HCV := Lib.hid (show cutV 58 t = (nameQ t, restQ t, true) by unfold cutV; rw [hc, hn, hr])
    have HNL := Lib.hid (show (nameQ t).length ≤ 1000000 by rw [hn]; have := congrArg List.length (cutP_some hc).1; simp at this; omega)
    have HRL := Lib.hid (show (restQ t).length ≤ 1000000 by rw [hr]; have := congrArg List.length (cutP_some hc).1; simp at this; omega)
    clear hc hn hr hin
    have HFL := Lib.hid (fun W hW => qfield_any (nameQ t) W (by have := HNL.out; omega) hW)
    have HSM := Lib.hid (fun W => qsmall_any (nameQ t) W (by have := HNL.out; omega))
    unfold StrB at HSM
    obtain ⟨F, hF⟩ : ∃ F, fieldQ (nameQ t) = F := ⟨_, rfl⟩
    have HF5 := Lib.hid (show F ≤ 5 by rw [← hF]; exact (field_at (nameQ t)).2.2.2.2.2)
    have HFE := Lib.hid hF
    simp only [hF] at HFL
    clear hF
    by_cases hF0 : F = 0
    · subst hF0
      obtain ⟨S, hS⟩ : ∃ S, smallP (nameQ t) = S := ⟨_, rfl⟩
      have HSE := Lib.hid hS
      simp only [hS] at HSM
      clear hS
      by_cases hSis : S = [105, 115]
      · have HE := Lib.hid ((meansQ_named HIN.out HFE.out (by rw [HSE.out, hSis]; exact named_is (restQ t))).symm.trans HO.out)
        obtain ⟨V, hV⟩ : ∃ V : Option Qry, (if flagQ (smallP (restQ t)) then some (.mk 5 0 (smallP (restQ t)) 0 []) else none) = V := ⟨_, rfl⟩
        have HRN := Lib.hid (fun W hW => qnamed_is (restQ t) W HRL.out hW)
        simp only [hV] at HRN HE
        clear hV
        have HSM2 := Lib.hid (show ∀ W, Calls Tryz.prog 49 #[.string (ba (nameQ t))] W fun e w' => e = .returned (.string ⟨#[105, 115]⟩) ∧ Below W.heap.size W w' from fun W => by rw [show (⟨#[105, 115]⟩ : ByteArray) = ba S from by rw [hSis]; rfl]; exact HSM.out W)
        clear hSis
        go_enter Tryz.func75, Tryz.ntmps75
        go_wp2_with fail
        refine (HCU.out _ (HT.out.below HB0.out)).mono ?_
        rintro e w' ⟨rfl, nq, rfl⟩
        rw [HCV.out]
        have HB1 := Lib.hid (bdN HB0.out nq)
        have HZ1 := Lib.hid (show QzAt (((w.alloc (.cells #[.int .i64 5, .int .i64 i, .int .i64 j, .string (ba t), .int .i64 0, .bool false] 41)).alloc (.cells #[.int .i64 0, .int .i64 0, .string ⟨#[]⟩, .int .i64 0, .slice none 0 0] 25)).drewN nq) (w.heap.size + 1) from HZ0.out)
        obtain ⟨w1, hw1⟩ : ∃ w1, ((w.alloc (.cells #[.int .i64 5, .int .i64 i, .int .i64 j, .string (ba t), .int .i64 0, .bool false] 41)).alloc (.cells #[.int .i64 0, .int .i64 0, .string ⟨#[]⟩, .int .i64 0, .slice none 0 0] 25)).drewN nq = w1 := ⟨_, rfl⟩
        have HX1 := Lib.hid (show QBox w1 w.heap.size (ba t) 0 i j 5 from by rw [← hw1]; exact HX0.out)
        have Z1 := Lib.hid (show w.heap.size + 1 < w1.heap.size from by rw [← hw1]; exact Z0.out)
        simp only [hw1] at HB1 HZ1
        rw [hw1]
        clear hw1
        have z1 := Z1.out
        have d1 := HX1.out.text
        go_wp2_with fail
        refine (HFL.out w1 (HT.out.below HB1.out)).mono ?_
        rintro e w2 ⟨rfl, hb2⟩
        have HB2 := Lib.hid (HB1.out.trans (hb2.mono HB1.out.size))
        have HZ2 := Lib.hid (HZ1.out.below hb2 z1)
        have HX2 := Lib.hid (HX1.out.below hb2 (by omega))
        have z2 : w.heap.size + 1 < w2.heap.size := Nat.lt_of_lt_of_le z1 hb2.size
        clear hb2
        have d2 := HX2.out.text
        go_wp2_with fail
        refine (HSM2.out w2).mono ?_
        rintro e w3 ⟨rfl, hb3⟩
        have HB3 := Lib.hid (HB2.out.trans (hb3.mono HB2.out.size))
        have HZ3 := Lib.hid (HZ2.out.below hb3 z2)
        have HX3 := Lib.hid (HX2.out.below hb3 (by omega))
        have z3 : w.heap.size + 1 < w3.heap.size := Nat.lt_of_lt_of_le z2 hb3.size
        clear hb3
        have d3 := HX3.out.text
        go_wp2_with fail
        refine (HRN.out w3 (HT.out.below HB3.out)).mono ?_
        rintro e w4 ⟨op, fld, y, m, rfl, hb4, hq, hk⟩
        have HB4 := Lib.hid (HB3.out.trans (hb4.mono HB3.out.size))
        have HZ4 := Lib.hid (HZ3.out.below hb4 z3)
        have z4 : w.heap.size + 1 < w4.heap.size := Nat.lt_of_lt_of_le z3 hb4.size
        have HQ := Lib.hid hq
        have HK := Lib.hid hk
        clear hb4 hq hk
        obtain ⟨r0, r1, r2, r3, r4, rf⟩ := HZ4.out.cells
        go_wp2
        refine bodyPost_ret (v := .tuple #[.agg #[.int .i64 op, .int .i64 fld, .string (ba y), .int .i64 m, .slice none 0 0], .bool V.isSome]) (by simp [results, Tryz.results75, go_sem, r0, r1, r2, r3, r4, z4]) rfl ?_
        refine lf_end (fun q h => HQ.out q (HE.out.trans h)) (by rw [← HE.out]) rfl ?_ HK.out
        refine Below.alloc ?_ (by simp; omega) _
        repeat (first | (with_reducible exact HB4.out) | refine Below.setCell ?_ (by simp) _)
      · skip
        by_cases hSin : S = [105, 110]
        · have HE := Lib.hid ((meansQ_named HIN.out HFE.out (by rw [HSE.out, hSin]; exact named_in (restQ t))).symm.trans HO.out)
          obtain ⟨V, hV⟩ : ∃ V : Option Qry, ((decP (restQ t) 1 1099511627776).map fun n => .mk 6 0 [] n []) = V := ⟨_, rfl⟩
          have HRN := Lib.hid (fun W hW => qnamed_in (restQ t) W HRL.out hW)
          simp only [hV] at HRN HE
          clear hV
          have HSM2 := Lib.hid (show ∀ W, Calls Tryz.prog 49 #[.string (ba (nameQ t))] W fun e w' => e = .returned (.string ⟨#[105, 110]⟩) ∧ Below W.heap.size W w' from fun W => by rw [show (⟨#[105, 110]⟩ : ByteArray) = ba S from by rw [hSin]; rfl]; exact HSM.out W)
          clear hSin
          go_enter Tryz.func75, Tryz.ntmps75
          go_wp2_with fail
          refine (HCU.out _ (HT.out.below HB0.out)).mono ?_
          rintro e w' ⟨rfl, nq, rfl⟩
          rw [HCV.out]
          have HB1 := Lib.hid (bdN HB0.out nq)
          have HZ1 := Lib.hid (show QzAt (((w.alloc (.cells #[.int .i64 5, .int .i64 i, .int .i64 j, .string (ba t), .int .i64 0, .bool false] 41)).alloc (.cells #[.int .i64 0, .int .i64 0, .string ⟨#[]⟩, .int .i64 0, .slice none 0 0] 25)).drewN nq) (w.heap.size + 1) from HZ0.out)
          obtain ⟨w1, hw1⟩ : ∃ w1, ((w.alloc (.cells #[.int .i64 5, .int .i64 i, .int .i64 j, .string (ba t), .int .i64 0, .bool false] 41)).alloc (.cells #[.int .i64 0, .int .i64 0, .string ⟨#[]⟩, .int .i64 0, .slice none 0 0] 25)).drewN nq = w1 := ⟨_, rfl⟩
          have HX1 := Lib.hid (show QBox w1 w.heap.size (ba t) 0 i j 5 from by rw [← hw1]; exact HX0.out)
          have Z1 := Lib.hid (show w.heap.size + 1 < w1.heap.size from by rw [← hw1]; exact Z0.out)
          simp only [hw1] at HB1 HZ1
          rw [hw1]
          clear hw1
          have z1 := Z1.out
          have d1 := HX1.out.text
          go_wp2_with fail
          refine (HFL.out w1 (HT.out.below HB1.out)).mono ?_
          rintro e w2 ⟨rfl, hb2⟩
          have HB2 := Lib.hid (HB1.out.trans (hb2.mono HB1.out.size))
          have HZ2 := Lib.hid (HZ1.out.below hb2 z1)
          have HX2 := Lib.hid (HX1.out.below hb2 (by omega))
          have z2 : w.heap.size + 1 < w2.heap.size := Nat.lt_of_lt_of_le z1 hb2.size
          clear hb2
          have d2 := HX2.out.text
          go_wp2_with fail
          refine (HSM2.out w2).mono ?_
          rintro e w3 ⟨rfl, hb3⟩
          have HB3 := Lib.hid (HB2.out.trans (hb3.mono HB2.out.size))
          have HZ3 := Lib.hid (HZ2.out.below hb3 z2)
          have HX3 := Lib.hid (HX2.out.below hb3 (by omega))
          have z3 : w.heap.size + 1 < w3.heap.size := Nat.lt_of_lt_of_le z2 hb3.size
          clear hb3
          have d3 := HX3.out.text
          go_wp2_with fail
          refine (HRN.out w3 (HT.out.below HB3.out)).mono ?_
          rintro e w4 ⟨op, fld, y, m, rfl, hb4, hq, hk⟩
          have HB4 := Lib.hid (HB3.out.trans (hb4.mono HB3.out.size))
          have HZ4 := Lib.hid (HZ3.out.below hb4 z3)
          have z4 : w.heap.size + 1 < w4.heap.size := Nat.lt_of_lt_of_le z3 hb4.size
          have HQ := Lib.hid hq
          have HK := Lib.hid hk
          clear hb4 hq hk
          obtain ⟨r0, r1, r2, r3, r4, rf⟩ := HZ4.out.cells
          go_wp2
          refine bodyPost_ret (v := .tuple #[.agg #[.int .i64 op, .int .i64 fld, .string (ba y), .int .i64 m, .slice none 0 0], .bool V.isSome]) (by simp [results, Tryz.results75, go_sem, r0, r1, r2, r3, r4, z4]) rfl ?_
          refine lf_end (fun q h => HQ.out q (HE.out.trans h)) (by rw [← HE.out]) rfl ?_ HK.out
          refine Below.alloc ?_ (by simp; omega) _
          repeat (first | (with_reducible exact HB4.out) | refine Below.setCell ?_ (by simp) _)
        · skip
          by_cases hSlarger : S = [108, 97, 114, 103, 101, 114]
          · have HE := Lib.hid ((meansQ_named HIN.out HFE.out (by rw [HSE.out, hSlarger]; exact named_larger (restQ t))).symm.trans HO.out)
            obtain ⟨V, hV⟩ : ∃ V : Option Qry, ((sizeQ (restQ t)).map fun n => .mk 9 0 [] n []) = V := ⟨_, rfl⟩
            have HRN := Lib.hid (fun W hW => qnamed_larger (restQ t) W HRL.out hW)
            simp only [hV] at HRN HE
            clear hV
            have HSM2 := Lib.hid (show ∀ W, Calls Tryz.prog 49 #[.string (ba (nameQ t))] W fun e w' => e = .returned (.string ⟨#[108, 97, 114, 103, 101, 114]⟩) ∧ Below W.heap.size W w' from fun W => by rw [show (⟨#[108, 97, 114, 103, 101, 114]⟩ : ByteArray) = ba S from by rw [hSlarger]; rfl]; exact HSM.out W)
            clear hSlarger
            go_enter Tryz.func75, Tryz.ntmps75
            go_wp2_with fail
            refine (HCU.out _ (HT.out.below HB0.out)).mono ?_
            rintro e w' ⟨rfl, nq, rfl⟩
            rw [HCV.out]
            have HB1 := Lib.hid (bdN HB0.out nq)
            have HZ1 := Lib.hid (show QzAt (((w.alloc (.cells #[.int .i64 5, .int .i64 i, .int .i64 j, .string (ba t), .int .i64 0, .bool false] 41)).alloc (.cells #[.int .i64 0, .int .i64 0, .string ⟨#[]⟩, .int .i64 0, .slice none 0 0] 25)).drewN nq) (w.heap.size + 1) from HZ0.out)
            obtain ⟨w1, hw1⟩ : ∃ w1, ((w.alloc (.cells #[.int .i64 5, .int .i64 i, .int .i64 j, .string (ba t), .int .i64 0, .bool false] 41)).alloc (.cells #[.int .i64 0, .int .i64 0, .string ⟨#[]⟩, .int .i64 0, .slice none 0 0] 25)).drewN nq = w1 := ⟨_, rfl⟩
            have HX1 := Lib.hid (show QBox w1 w.heap.size (ba t) 0 i j 5 from by rw [← hw1]; exact HX0.out)
            have Z1 := Lib.hid (show w.heap.size + 1 < w1.heap.size from by rw [← hw1]; exact Z0.out)
            simp only [hw1] at HB1 HZ1
            rw [hw1]
            clear hw1
            have z1 := Z1.out
            have d1 := HX1.out.text
            go_wp2_with fail
            refine (HFL.out w1 (HT.out.below HB1.out)).mono ?_
            rintro e w2 ⟨rfl, hb2⟩
            have HB2 := Lib.hid (HB1.out.trans (hb2.mono HB1.out.size))
            have HZ2 := Lib.hid (HZ1.out.below hb2 z1)
            have HX2 := Lib.hid (HX1.out.below hb2 (by omega))
            have z2 : w.heap.size + 1 < w2.heap.size := Nat.lt_of_lt_of_le z1 hb2.size
            clear hb2
            have d2 := HX2.out.text
            go_wp2_with fail
            refine (HSM2.out w2).mono ?_
            rintro e w3 ⟨rfl, hb3⟩
            have HB3 := Lib.hid (HB2.out.trans (hb3.mono HB2.out.size))
            have HZ3 := Lib.hid (HZ2.out.below hb3 z2)
            have HX3 := Lib.hid (HX2.out.below hb3 (by omega))
            have z3 : w.heap.size + 1 < w3.heap.size := Nat.lt_of_lt_of_le z2 hb3.size
            clear hb3
            have d3 := HX3.out.text
            go_wp2_with fail
            refine (HRN.out w3 (HT.out.below HB3.out)).mono ?_
            rintro e w4 ⟨op, fld, y, m, rfl, hb4, hq, hk⟩
            have HB4 := Lib.hid (HB3.out.trans (hb4.mono HB3.out.size))
            have HZ4 := Lib.hid (HZ3.out.below hb4 z3)
            have z4 : w.heap.size + 1 < w4.heap.size := Nat.lt_of_lt_of_le z3 hb4.size
            have HQ := Lib.hid hq
            have HK := Lib.hid hk
            clear hb4 hq hk
            obtain ⟨r0, r1, r2, r3, r4, rf⟩ := HZ4.out.cells
            go_wp2
            refine bodyPost_ret (v := .tuple #[.agg #[.int .i64 op, .int .i64 fld, .string (ba y), .int .i64 m, .slice none 0 0], .bool V.isSome]) (by simp [results, Tryz.results75, go_sem, r0, r1, r2, r3, r4, z4]) rfl ?_
            refine lf_end (fun q h => HQ.out q (HE.out.trans h)) (by rw [← HE.out]) rfl ?_ HK.out
            refine Below.alloc ?_ (by simp; omega) _
            repeat (first | (with_reducible exact HB4.out) | refine Below.setCell ?_ (by simp) _)
          · skip
            by_cases hSsmaller : S = [115, 109, 97, 108, 108, 101, 114]
            · have HE := Lib.hid ((meansQ_named HIN.out HFE.out (by rw [HSE.out, hSsmaller]; exact named_smaller (restQ t))).symm.trans HO.out)
              obtain ⟨V, hV⟩ : ∃ V : Option Qry, ((sizeQ (restQ t)).map fun n => .mk 10 0 [] n []) = V := ⟨_, rfl⟩
              have HRN := Lib.hid (fun W hW => qnamed_smaller (restQ t) W HRL.out hW)
              simp only [hV] at HRN HE
              clear hV
              have HSM2 := Lib.hid (show ∀ W, Calls Tryz.prog 49 #[.string (ba (nameQ t))] W fun e w' => e = .returned (.string ⟨#[115, 109, 97, 108, 108, 101, 114]⟩) ∧ Below W.heap.size W w' from fun W => by rw [show (⟨#[115, 109, 97, 108, 108, 101, 114]⟩ : ByteArray) = ba S from by rw [hSsmaller]; rfl]; exact HSM.out W)
              clear hSsmaller
              go_enter Tryz.func75, Tryz.ntmps75
              go_wp2_with fail
              refine (HCU.out _ (HT.out.below HB0.out)).mono ?_
              rintro e w' ⟨rfl, nq, rfl⟩
              rw [HCV.out]
              have HB1 := Lib.hid (bdN HB0.out nq)
              have HZ1 := Lib.hid (show QzAt (((w.alloc (.cells #[.int .i64 5, .int .i64 i, .int .i64 j, .string (ba t), .int .i64 0, .bool false] 41)).alloc (.cells #[.int .i64 0, .int .i64 0, .string ⟨#[]⟩, .int .i64 0, .slice none 0 0] 25)).drewN nq) (w.heap.size + 1) from HZ0.out)
              obtain ⟨w1, hw1⟩ : ∃ w1, ((w.alloc (.cells #[.int .i64 5, .int .i64 i, .int .i64 j, .string (ba t), .int .i64 0, .bool false] 41)).alloc (.cells #[.int .i64 0, .int .i64 0, .string ⟨#[]⟩, .int .i64 0, .slice none 0 0] 25)).drewN nq = w1 := ⟨_, rfl⟩
              have HX1 := Lib.hid (show QBox w1 w.heap.size (ba t) 0 i j 5 from by rw [← hw1]; exact HX0.out)
              have Z1 := Lib.hid (show w.heap.size + 1 < w1.heap.size from by rw [← hw1]; exact Z0.out)
              simp only [hw1] at HB1 HZ1
              rw [hw1]
              clear hw1
              have z1 := Z1.out
              have d1 := HX1.out.text
              go_wp2_with fail
              refine (HFL.out w1 (HT.out.below HB1.out)).mono ?_
              rintro e w2 ⟨rfl, hb2⟩
              have HB2 := Lib.hid (HB1.out.trans (hb2.mono HB1.out.size))
              have HZ2 := Lib.hid (HZ1.out.below hb2 z1)
              have HX2 := Lib.hid (HX1.out.below hb2 (by omega))
              have z2 : w.heap.size + 1 < w2.heap.size := Nat.lt_of_lt_of_le z1 hb2.size
              clear hb2
              have d2 := HX2.out.text
              go_wp2_with fail
              refine (HSM2.out w2).mono ?_
              rintro e w3 ⟨rfl, hb3⟩
              have HB3 := Lib.hid (HB2.out.trans (hb3.mono HB2.out.size))
              have HZ3 := Lib.hid (HZ2.out.below hb3 z2)
              have HX3 := Lib.hid (HX2.out.below hb3 (by omega))
              have z3 : w.heap.size + 1 < w3.heap.size := Nat.lt_of_lt_of_le z2 hb3.size
              clear hb3
              have d3 := HX3.out.text
              go_wp2_with fail
              refine (HRN.out w3 (HT.out.below HB3.out)).mono ?_
              rintro e w4 ⟨op, fld, y, m, rfl, hb4, hq, hk⟩
              have HB4 := Lib.hid (HB3.out.trans (hb4.mono HB3.out.size))
              have HZ4 := Lib.hid (HZ3.out.below hb4 z3)
              have z4 : w.heap.size + 1 < w4.heap.size := Nat.lt_of_lt_of_le z3 hb4.size
              have HQ := Lib.hid hq
              have HK := Lib.hid hk
              clear hb4 hq hk
              obtain ⟨r0, r1, r2, r3, r4, rf⟩ := HZ4.out.cells
              go_wp2
              refine bodyPost_ret (v := .tuple #[.agg #[.int .i64 op, .int .i64 fld, .string (ba y), .int .i64 m, .slice none 0 0], .bool V.isSome]) (by simp [results, Tryz.results75, go_sem, r0, r1, r2, r3, r4, z4]) rfl ?_
              refine lf_end (fun q h => HQ.out q (HE.out.trans h)) (by rw [← HE.out]) rfl ?_ HK.out
              refine Below.alloc ?_ (by simp; omega) _
              repeat (first | (with_reducible exact HB4.out) | refine Below.setCell ?_ (by simp) _)
            · skip
              by_cases hSbefore : S = [98, 101, 102, 111, 114, 101]
              · have HE := Lib.hid ((meansQ_named HIN.out HFE.out (by rw [HSE.out, hSbefore]; exact named_before (restQ t))).symm.trans HO.out)
                obtain ⟨V, hV⟩ : ∃ V : Option Qry, ((momentQ (restQ t)).map fun n => .mk 7 0 [] n []) = V := ⟨_, rfl⟩
                have HRN := Lib.hid (fun W hW => qnamed_before (restQ t) W HRL.out hW)
                simp only [hV] at HRN HE
                clear hV
                have HSM2 := Lib.hid (show ∀ W, Calls Tryz.prog 49 #[.string (ba (nameQ t))] W fun e w' => e = .returned (.string ⟨#[98, 101, 102, 111, 114, 101]⟩) ∧ Below W.heap.size W w' from fun W => by rw [show (⟨#[98, 101, 102, 111, 114, 101]⟩ : ByteArray) = ba S from by rw [hSbefore]; rfl]; exact HSM.out W)
                clear hSbefore
                go_enter Tryz.func75, Tryz.ntmps75
                go_wp2_with fail
                refine (HCU.out _ (HT.out.below HB0.out)).mono ?_
                rintro e w' ⟨rfl, nq, rfl⟩
                rw [HCV.out]
                have HB1 := Lib.hid (bdN HB0.out nq)
                have HZ1 := Lib.hid (show QzAt (((w.alloc (.cells #[.int .i64 5, .int .i64 i, .int .i64 j, .string (ba t), .int .i64 0, .bool false] 41)).alloc (.cells #[.int .i64 0, .int .i64 0, .string ⟨#[]⟩, .int .i64 0, .slice none 0 0] 25)).drewN nq) (w.heap.size + 1) from HZ0.out)
                obtain ⟨w1, hw1⟩ : ∃ w1, ((w.alloc (.cells #[.int .i64 5, .int .i64 i, .int .i64 j, .string (ba t), .int .i64 0, .bool false] 41)).alloc (.cells #[.int .i64 0, .int .i64 0, .string ⟨#[]⟩, .int .i64 0, .slice none 0 0] 25)).drewN nq = w1 := ⟨_, rfl⟩
                have HX1 := Lib.hid (show QBox w1 w.heap.size (ba t) 0 i j 5 from by rw [← hw1]; exact HX0.out)
                have Z1 := Lib.hid (show w.heap.size + 1 < w1.heap.size from by rw [← hw1]; exact Z0.out)
                simp only [hw1] at HB1 HZ1
                rw [hw1]
                clear hw1
                have z1 := Z1.out
                have d1 := HX1.out.text
                go_wp2_with fail
                refine (HFL.out w1 (HT.out.below HB1.out)).mono ?_
                rintro e w2 ⟨rfl, hb2⟩
                have HB2 := Lib.hid (HB1.out.trans (hb2.mono HB1.out.size))
                have HZ2 := Lib.hid (HZ1.out.below hb2 z1)
                have HX2 := Lib.hid (HX1.out.below hb2 (by omega))
                have z2 : w.heap.size + 1 < w2.heap.size := Nat.lt_of_lt_of_le z1 hb2.size
                clear hb2
                have d2 := HX2.out.text
                go_wp2_with fail
                refine (HSM2.out w2).mono ?_
                rintro e w3 ⟨rfl, hb3⟩
                have HB3 := Lib.hid (HB2.out.trans (hb3.mono HB2.out.size))
                have HZ3 := Lib.hid (HZ2.out.below hb3 z2)
                have HX3 := Lib.hid (HX2.out.below hb3 (by omega))
                have z3 : w.heap.size + 1 < w3.heap.size := Nat.lt_of_lt_of_le z2 hb3.size
                clear hb3
                have d3 := HX3.out.text
                go_wp2_with fail
                refine (HRN.out w3 (HT.out.below HB3.out)).mono ?_
                rintro e w4 ⟨op, fld, y, m, rfl, hb4, hq, hk⟩
                have HB4 := Lib.hid (HB3.out.trans (hb4.mono HB3.out.size))
                have HZ4 := Lib.hid (HZ3.out.below hb4 z3)
                have z4 : w.heap.size + 1 < w4.heap.size := Nat.lt_of_lt_of_le z3 hb4.size
                have HQ := Lib.hid hq
                have HK := Lib.hid hk
                clear hb4 hq hk
                obtain ⟨r0, r1, r2, r3, r4, rf⟩ := HZ4.out.cells
                go_wp2
                refine bodyPost_ret (v := .tuple #[.agg #[.int .i64 op, .int .i64 fld, .string (ba y), .int .i64 m, .slice none 0 0], .bool V.isSome]) (by simp [results, Tryz.results75, go_sem, r0, r1, r2, r3, r4, z4]) rfl ?_
                refine lf_end (fun q h => HQ.out q (HE.out.trans h)) (by rw [← HE.out]) rfl ?_ HK.out
                refine Below.alloc ?_ (by simp; omega) _
                repeat (first | (with_reducible exact HB4.out) | refine Below.setCell ?_ (by simp) _)
              · skip
                by_cases hSafter : S = [97, 102, 116, 101, 114]
                · have HE := Lib.hid ((meansQ_named HIN.out HFE.out (by rw [HSE.out, hSafter]; exact named_after (restQ t))).symm.trans HO.out)
                  obtain ⟨V, hV⟩ : ∃ V : Option Qry, ((momentQ (restQ t)).map fun n => .mk 8 0 [] n []) = V := ⟨_, rfl⟩
                  have HRN := Lib.hid (fun W hW => qnamed_after (restQ t) W HRL.out hW)
                  simp only [hV] at HRN HE
                  clear hV
                  have HSM2 := Lib.hid (show ∀ W, Calls Tryz.prog 49 #[.string (ba (nameQ t))] W fun e w' => e = .returned (.string ⟨#[97, 102, 116, 101, 114]⟩) ∧ Below W.heap.size W w' from fun W => by rw [show (⟨#[97, 102, 116, 101, 114]⟩ : ByteArray) = ba S from by rw [hSafter]; rfl]; exact HSM.out W)
                  clear hSafter
                  go_enter Tryz.func75, Tryz.ntmps75
                  go_wp2_with fail
                  refine (HCU.out _ (HT.out.below HB0.out)).mono ?_
                  rintro e w' ⟨rfl, nq, rfl⟩
                  rw [HCV.out]
                  have HB1 := Lib.hid (bdN HB0.out nq)
                  have HZ1 := Lib.hid (show QzAt (((w.alloc (.cells #[.int .i64 5, .int .i64 i, .int .i64 j, .string (ba t), .int .i64 0, .bool false] 41)).alloc (.cells #[.int .i64 0, .int .i64 0, .string ⟨#[]⟩, .int .i64 0, .slice none 0 0] 25)).drewN nq) (w.heap.size + 1) from HZ0.out)
                  obtain ⟨w1, hw1⟩ : ∃ w1, ((w.alloc (.cells #[.int .i64 5, .int .i64 i, .int .i64 j, .string (ba t), .int .i64 0, .bool false] 41)).alloc (.cells #[.int .i64 0, .int .i64 0, .string ⟨#[]⟩, .int .i64 0, .slice none 0 0] 25)).drewN nq = w1 := ⟨_, rfl⟩
                  have HX1 := Lib.hid (show QBox w1 w.heap.size (ba t) 0 i j 5 from by rw [← hw1]; exact HX0.out)
                  have Z1 := Lib.hid (show w.heap.size + 1 < w1.heap.size from by rw [← hw1]; exact Z0.out)
                  simp only [hw1] at HB1 HZ1
                  rw [hw1]
                  clear hw1
                  have z1 := Z1.out
                  have d1 := HX1.out.text
                  go_wp2_with fail
                  refine (HFL.out w1 (HT.out.below HB1.out)).mono ?_
                  rintro e w2 ⟨rfl, hb2⟩
                  have HB2 := Lib.hid (HB1.out.trans (hb2.mono HB1.out.size))
                  have HZ2 := Lib.hid (HZ1.out.below hb2 z1)
                  have HX2 := Lib.hid (HX1.out.below hb2 (by omega))
                  have z2 : w.heap.size + 1 < w2.heap.size := Nat.lt_of_lt_of_le z1 hb2.size
                  clear hb2
                  have d2 := HX2.out.text
                  go_wp2_with fail
                  refine (HSM2.out w2).mono ?_
                  rintro e w3 ⟨rfl, hb3⟩
                  have HB3 := Lib.hid (HB2.out.trans (hb3.mono HB2.out.size))
                  have HZ3 := Lib.hid (HZ2.out.below hb3 z2)
                  have HX3 := Lib.hid (HX2.out.below hb3 (by omega))
                  have z3 : w.heap.size + 1 < w3.heap.size := Nat.lt_of_lt_of_le z2 hb3.size
                  clear hb3
                  have d3 := HX3.out.text
                  go_wp2_with fail
                  refine (HRN.out w3 (HT.out.below HB3.out)).mono ?_
                  rintro e w4 ⟨op, fld, y, m, rfl, hb4, hq, hk⟩
                  have HB4 := Lib.hid (HB3.out.trans (hb4.mono HB3.out.size))
                  have HZ4 := Lib.hid (HZ3.out.below hb4 z3)
                  have z4 : w.heap.size + 1 < w4.heap.size := Nat.lt_of_lt_of_le z3 hb4.size
                  have HQ := Lib.hid hq
                  have HK := Lib.hid hk
                  clear hb4 hq hk
                  obtain ⟨r0, r1, r2, r3, r4, rf⟩ := HZ4.out.cells
                  go_wp2
                  refine bodyPost_ret (v := .tuple #[.agg #[.int .i64 op, .int .i64 fld, .string (ba y), .int .i64 m, .slice none 0 0], .bool V.isSome]) (by simp [results, Tryz.results75, go_sem, r0, r1, r2, r3, r4, z4]) rfl ?_
                  refine lf_end (fun q h => HQ.out q (HE.out.trans h)) (by rw [← HE.out]) rfl ?_ HK.out
                  refine Below.alloc ?_ (by simp; omega) _
                  repeat (first | (with_reducible exact HB4.out) | refine Below.setCell ?_ (by simp) _)
                · skip
                  have HE := Lib.hid ((meansQ_other HIN.out HFE.out (by rw [HSE.out]; exact named_no (restQ t) hSis hSin hSlarger hSsmaller hSbefore hSafter)).symm.trans HO.out)
                  have HNN := Lib.hid (fun W => qnamed_no S (restQ t) W hSis hSin hSlarger hSsmaller hSbefore hSafter)
                  clear hSis hSin hSlarger hSsmaller hSbefore hSafter
                  go_enter Tryz.func75, Tryz.ntmps75
                  go_wp2_with fail
                  refine (HCU.out _ (HT.out.below HB0.out)).mono ?_
                  rintro e w' ⟨rfl, nq, rfl⟩
                  rw [HCV.out]
                  have HB1 := Lib.hid (bdN HB0.out nq)
                  have HZ1 := Lib.hid (show QzAt (((w.alloc (.cells #[.int .i64 5, .int .i64 i, .int .i64 j, .string (ba t), .int .i64 0, .bool false] 41)).alloc (.cells #[.int .i64 0, .int .i64 0, .string ⟨#[]⟩, .int .i64 0, .slice none 0 0] 25)).drewN nq) (w.heap.size + 1) from HZ0.out)
                  obtain ⟨w1, hw1⟩ : ∃ w1, ((w.alloc (.cells #[.int .i64 5, .int .i64 i, .int .i64 j, .string (ba t), .int .i64 0, .bool false] 41)).alloc (.cells #[.int .i64 0, .int .i64 0, .string ⟨#[]⟩, .int .i64 0, .slice none 0 0] 25)).drewN nq = w1 := ⟨_, rfl⟩
                  have HX1 := Lib.hid (show QBox w1 w.heap.size (ba t) 0 i j 5 from by rw [← hw1]; exact HX0.out)
                  have Z1 := Lib.hid (show w.heap.size + 1 < w1.heap.size from by rw [← hw1]; exact Z0.out)
                  simp only [hw1] at HB1 HZ1
                  rw [hw1]
                  clear hw1
                  have z1 := Z1.out
                  have d1 := HX1.out.text
                  go_wp2_with fail
                  refine (HFL.out w1 (HT.out.below HB1.out)).mono ?_
                  rintro e w2 ⟨rfl, hb2⟩
                  have HB2 := Lib.hid (HB1.out.trans (hb2.mono HB1.out.size))
                  have HZ2 := Lib.hid (HZ1.out.below hb2 z1)
                  have HX2 := Lib.hid (HX1.out.below hb2 (by omega))
                  have z2 : w.heap.size + 1 < w2.heap.size := Nat.lt_of_lt_of_le z1 hb2.size
                  clear hb2
                  have d2 := HX2.out.text
                  go_wp2_with fail
                  refine (HSM.out w2).mono ?_
                  rintro e w3 ⟨rfl, hb3⟩
                  have HB3 := Lib.hid (HB2.out.trans (hb3.mono HB2.out.size))
                  have HZ3 := Lib.hid (HZ2.out.below hb3 z2)
                  have HX3 := Lib.hid (HX2.out.below hb3 (by omega))
                  have z3 : w.heap.size + 1 < w3.heap.size := Nat.lt_of_lt_of_le z2 hb3.size
                  clear hb3
                  have d3 := HX3.out.text
                  go_wp2_with fail
                  refine (HNN.out w3).mono ?_
                  rintro e w4 ⟨rfl, hb4⟩
                  have HB4 := Lib.hid (HB3.out.trans (hb4.mono HB3.out.size))
                  have HZ4 := Lib.hid (HZ3.out.below hb4 z3)
                  have HX4 := Lib.hid (HX3.out.below hb4 (by omega))
                  have z4 : w.heap.size + 1 < w4.heap.size := Nat.lt_of_lt_of_le z3 hb4.size
                  clear hb4
                  have d4 := HX4.out.text
                  have zz4 : w.heap.size < w4.heap.size := by omega
                  have HB5 := Lib.hid (HB4.out.alloc (by omega) (.cells #[.int .i64 0, .int .i64 0, .string ⟨#[]⟩, .int .i64 0, .slice none 0 0] 25))
                  have HZ5 := Lib.hid (HZ4.out.below ((Below.refl w4.heap.size w4).alloc (Nat.le_refl _) (.cells #[.int .i64 0, .int .i64 0, .string ⟨#[]⟩, .int .i64 0, .slice none 0 0] 25)) z4)
                  have HX5 := Lib.hid (HX4.out.below ((Below.refl w4.heap.size w4).alloc (Nat.le_refl _) (.cells #[.int .i64 0, .int .i64 0, .string ⟨#[]⟩, .int .i64 0, .slice none 0 0] 25)) (by omega))
                  have Z5 := Lib.hid (show w.heap.size + 1 < (w4.alloc (.cells #[.int .i64 0, .int .i64 0, .string ⟨#[]⟩, .int .i64 0, .slice none 0 0] 25)).heap.size by simp; omega)
                  go_wp2_with fail
                  refine (HPT.out _ (HT.out.below HB5.out)).mono ?_
                  rintro e w6 ⟨op, fld, y, m, rfl, hb6, hq, hk⟩
                  have HB6 := Lib.hid (HB5.out.trans (hb6.mono HB5.out.size))
                  have HZ6 := Lib.hid (HZ5.out.below hb6 Z5.out)
                  have z6 : w.heap.size + 1 < w6.heap.size := Nat.lt_of_lt_of_le Z5.out hb6.size
                  have HQ := Lib.hid hq
                  have HK := Lib.hid hk
                  clear hb6 hq hk
                  obtain ⟨r0, r1, r2, r3, r4, rf⟩ := HZ6.out.cells
                  go_wp2
                  refine bodyPost_ret (v := .tuple #[.agg #[.int .i64 op, .int .i64 fld, .string (ba y), .int .i64 m, .slice none 0 0], .bool (plainQ t 0).isSome]) (by simp [results, Tryz.results75, go_sem, r0, r1, r2, r3, r4]) rfl ?_
                  refine lf_end (fun q h => HQ.out q (HE.out.trans h)) (by rw [← HE.out]) rfl ?_ HK.out
                  repeat (first | (with_reducible exact HB6.out) | refine Below.setCell ?_ (by simp) _)
    · have hF1 : 0 < F := by omega
      have HE := Lib.hid (show plainQ (restQ t) F = O by rw [← HO.out, meansQ_field HIN.out (by rw [HFE.out]; exact hF1), HFE.out])
      have g1 : decide ((0 : Int) < (F : Int)) = true := decide_eq_true (by omega)
      have g2 : (0 : Int) < (F : Int) := by omega
      go_enter Tryz.func75, Tryz.ntmps75
      go_wp2_with fail
      refine (HCU.out _ (HT.out.below HB0.out)).mono ?_
      rintro e w' ⟨rfl, nq, rfl⟩
      rw [HCV.out]
      have HB1 := Lib.hid (bdN HB0.out nq)
      have HZ1 := Lib.hid (show QzAt (((w.alloc (.cells #[.int .i64 5, .int .i64 i, .int .i64 j, .string (ba t), .int .i64 0, .bool false] 41)).alloc (.cells #[.int .i64 0, .int .i64 0, .string ⟨#[]⟩, .int .i64 0, .slice none 0 0] 25)).drewN nq) (w.heap.size + 1) from HZ0.out)
      obtain ⟨w1, hw1⟩ : ∃ w1, ((w.alloc (.cells #[.int .i64 5, .int .i64 i, .int .i64 j, .string (ba t), .int .i64 0, .bool false] 41)).alloc (.cells #[.int .i64 0, .int .i64 0, .string ⟨#[]⟩, .int .i64 0, .slice none 0 0] 25)).drewN nq = w1 := ⟨_, rfl⟩
      have HX1 := Lib.hid (show QBox w1 w.heap.size (ba t) 0 i j 5 from by rw [← hw1]; exact HX0.out)
      have Z1 := Lib.hid (show w.heap.size + 1 < w1.heap.size from by rw [← hw1]; exact Z0.out)
      simp only [hw1] at HB1 HZ1
      rw [hw1]
      clear hw1
      have z1 := Z1.out
      have d1 := HX1.out.text
      go_wp2_with fail
      refine (HFL.out w1 (HT.out.below HB1.out)).mono ?_
      rintro e w2 ⟨rfl, hb2⟩
      have HB2 := Lib.hid (HB1.out.trans (hb2.mono HB1.out.size))
      have HZ2 := Lib.hid (HZ1.out.below hb2 z1)
      have HX2 := Lib.hid (HX1.out.below hb2 (by omega))
      have z2 : w.heap.size + 1 < w2.heap.size := Nat.lt_of_lt_of_le z1 hb2.size
      clear hb2
      have d2 := HX2.out.text
      go_wp2_with fail
      refine (HPL.out (restQ t) F HRL.out (by have := HF5.out; omega) w2 (HT.out.below HB2.out)).mono ?_
      rintro e w3 ⟨op, fld, y, m, rfl, hb3, hq, hk⟩
      have HB3 := Lib.hid (HB2.out.trans (hb3.mono HB2.out.size))
      have HZ3 := Lib.hid (HZ2.out.below hb3 z2)
      have z3 : w.heap.size + 1 < w3.heap.size := Nat.lt_of_lt_of_le z2 hb3.size
      have HQ := Lib.hid hq
      have HK := Lib.hid hk
      clear hb3 hq hk
      obtain ⟨r0, r1, r2, r3, r4, rf⟩ := HZ3.out.cells
      go_wp2
      refine bodyPost_ret (v := .tuple #[.agg #[.int .i64 op, .int .i64 fld, .string (ba y), .int .i64 m, .slice none 0 0], .bool (plainQ (restQ t) F).isSome]) (by simp [results, Tryz.results75, go_sem, r0, r1, r2, r3, r4]) rfl ?_
      refine lf_end (fun q h => HQ.out q (HE.out.trans h)) (by rw [← HE.out]) rfl ?_ HK.out
      repeat (first | (with_reducible exact HB3.out) | refine Below.setCell ?_ (by simp) _)
end Go.Proofs.YtomcdhmcjndioaaGreatDoor
end
section
namespace Go.Proofs.YtomcdhmcjndioaaGreatDoor
open Go.RowKit
set_option linter.unusedVariables false

/-- What the package variables hold, below B. -/
structure QTB (w : World) (B : Nat) : Prop where
  err : ErrVar w
  max : ∃ m, w.cell? ⟨2, 0, none⟩ = some (.int .i64 m)
  fs : fSpans w B
  ks : kSpans w B
  fld : ∀ j, j < 6 → w.cell? ⟨0, j, none⟩ = some (.string (ba (fieldsQ.getD j [])))
  lt : 2 < B ∧ 6 < B ∧ 0 < B
theorem QTB.tabs {w : World} {B : Nat} (h : QTB w B) (hB : B ≤ w.heap.size) : QTabs w :=
  ⟨h.err, h.max, h.fs.more hB, h.ks.more hB, h.fld, by obtain ⟨l1, l2, l3⟩ := h.lt; exact ⟨by omega, by omega, by omega⟩⟩
theorem QTB.below {w w' : World} {B : Nat} (h : QTB w B) (hb : Below B w w') : QTB w' B := by
  obtain ⟨l1, l2, l3⟩ := h.lt
  refine ⟨?_, ?_, h.fs.below hb, h.ks.below hb, fun j hj => (hb.cell (p := ⟨0, j, none⟩) l3).trans (h.fld j hj), l1, l2, l3⟩
  · obtain ⟨ev, h1, h2⟩ := h.err
    exact ⟨ev, (hb.cell (p := ⟨6, 0, none⟩) l2).trans h1, h2⟩
  · obtain ⟨m, hm⟩ := h.max
    exact ⟨m, (hb.cell (p := ⟨2, 0, none⟩) l1).trans hm⟩
theorem QTabs.base {w : World} (h : QTabs w) : QTB w w.heap.size := ⟨h.err, h.max, h.fs, h.ks, h.fld, h.lt⟩
/-- The parser behind a run. -/
def PSt (w w' : World) (b : Nat) (s : List UInt8) (d : Nat) (q : Qry) : QRes → Prop
  | .ok q0 a => q = q0 ∧ Psr w' b s a d (.pointer none)
  | .err er a => ∃ g, w.heap.size ≤ g ∧ g ≠ b ∧ Psr w' b s s.length d (.pointer (some ⟨g, 0, none⟩)) ∧ Flt w' g er a
/-- What a run of the parser hands back. -/
def PEnd (w : World) (b : Nat) (s : List UInt8) (d : Nat) (R : QRes) (e : Ending) (w' : World) : Prop :=
  ∃ r q, e = .returned (RawQ.val r) ∧ QOwn w' w.heap.size r q ∧ RawOk r ∧ Off (fun k => k = b) w w' ∧ PSt w w' b s d q R
/-- The box of a piece. -/
def XBox (w : World) (g : Nat) (k i j : Int) (t : ByteArray) (f : Int) (z : Bool) : Prop := w.heap[g]? = some (.cells #[.int .i64 k, .int .i64 i, .int .i64 j, .string t, .int .i64 f, .bool z] 41 (0, 0))
theorem XBox.cells {w : World} {g : Nat} {k i j f : Int} {t : ByteArray} {z : Bool} (h : XBox w g k i j t f z) : w.cell? ⟨g, 0, none⟩ = some (.int .i64 k) ∧ w.cell? ⟨g, 1, none⟩ = some (.int .i64 i) ∧ w.cell? ⟨g, 2, none⟩ = some (.int .i64 j) ∧ w.cell? ⟨g, 3, none⟩ = some (.string t) ∧ w.cell? ⟨g, 4, none⟩ = some (.int .i64 f) ∧ w.cell? ⟨g, 5, none⟩ = some (.bool z) ∧ (∀ i, w.frozen? ⟨g, i, none⟩ = false) ∧ g < w.heap.size := by
  have h0 := h
  unfold XBox at h
  refine ⟨?_, ?_, ?_, ?_, ?_, ?_, fun i => Lib.frozen_of_heap h i, heap_lt h0⟩ <;> (rw [Lib.cell_of_heap h]; rfl)
/-- A term while it runs: the parser, the empty result, the piece's box, all else as it was. -/
structure TS (w W : World) (b : Nat) (s : List UInt8) (a d : Nat) (fl : Value) (gx : Nat) (k i j : Int) (t : ByteArray) (f : Int) (z : Bool) : Prop where
  psr : Psr W b s a d fl
  res : QzAt W w.heap.size
  box : XBox W gx k i j t f z
  off : Off (fun k => k = b) w W
  ord : w.heap.size < gx ∧ b < w.heap.size
theorem TS.below {w W W' : World} {b a d gx : Nat} {s : List UInt8} {fl : Value} {k i j f : Int} {t : ByteArray} {z : Bool} (h : TS w W b s a d fl gx k i j t f z) (hb : Below W.heap.size W W') : TS w W' b s a d fl gx k i j t f z :=
  ⟨h.psr.below hb (heap_lt h.psr), h.res.below hb (heap_lt h.res), (hb.block gx (heap_lt h.box)).trans h.box, h.off.andThen (Off.of_below (F := fun _ => False) hb (fun k hk hk2 => by omega)) (fun _ _ x => x.elim), h.ord⟩
end Go.Proofs.YtomcdhmcjndioaaGreatDoor
end
section
namespace Go.Proofs.YtomcdhmcjndioaaGreatDoor
open Go.RowKit
set_option linter.unusedVariables false

abbrev qObj : Obj := .cells #[.int .i64 0, .int .i64 0, .string ⟨#[]⟩, .int .i64 0, .slice none 0 0] 25
def TermC (s : List UInt8) (b d B0 f : Nat) : Prop := ∀ (w : World) (a : Nat), a ≤ s.length → 3 * (s.length - a) + 1 ≤ f → Psr w b s a d (.pointer none) → QTB w B0 →
  Calls Tryz.prog 50 #[.pointer (some ⟨b, 0, none⟩)] w (PEnd w b s d (runQ s f .term d a))
def RowC (s : List UInt8) (b d B0 f : Nat) : Prop := ∀ (w : World) (a : Nat), a ≤ s.length → 3 * (s.length - a) + 2 ≤ f → Psr w b s a d (.pointer none) → QTB w B0 →
  Calls Tryz.prog 29 #[.pointer (some ⟨b, 0, none⟩)] w (PEnd w b s d (runQ s f .row d a))
def QryC (s : List UInt8) (b d B0 f : Nat) : Prop := ∀ (w : World) (a : Nat), a ≤ s.length → 3 * (s.length - a) + 3 ≤ f → Psr w b s a d (.pointer none) → QTB w B0 →
  Calls Tryz.prog 14 #[.pointer (some ⟨b, 0, none⟩)] w (PEnd w b s d (runQ s f .qry d a))
theorem PSt.off {w0 W w w' : World} {F : Nat → Prop} {b d : Nat} {s : List UInt8} {q : Qry} {R : QRes} (h : PSt w0 W b s d q R) (hw : w.heap.size < w0.heap.size) (ho : Off F W w') (hF : ∀ k, F k → k = w.heap.size) (hb : b < w.heap.size) : PSt w w' b s d q R := by
  have hfb : ¬ F b := fun e => by have := hF b e; omega
  cases R with
  | ok q0 a => exact ⟨h.1, h.2.off ho hfb⟩
  | err er a =>
    obtain ⟨g, h1, h2, h3, h4⟩ := h
    refine ⟨g, by omega, h2, h3.off ho hfb, h4.off ho fun e => by have := hF g e; omega⟩
/-- A run whose outcome is kept, its query made another. -/
theorem PSt.map {w w' : World} {b d : Nat} {s : List UInt8} {q : Qry} {R : QRes} {k : Qry → Qry} (h : PSt w w' b s d q R) : PSt w w' b s d (k q) (R.then fun q b => .ok (k q) b) := by
  cases R with
  | ok q0 a => exact ⟨by rw [h.1], h.2⟩
  | err er a => exact h
theorem off_new (w : World) (F : Nat → Prop) (o : Obj) : Off F w (w.alloc o) := (Off.refl F w).alloc o
theorem QOwn.off {w w' : World} {F : Nat → Prop} {B B' : Nat} {r : RawQ} {q : Qry} (h : QOwn w B r q) (ho : Off F w w') (hF : ∀ k, F k → k < B) (hB : B' ≤ B) : QOwn w' B' r q :=
  QDeep.kept h ho.size (fun k hk hlt => ho.block k hlt fun e => by have := hF k e; omega) (fun k hk _ => by omega)
/-- A result put into the result's block. -/
theorem PEnd.out {w w1 w' : World} {b d : Nat} {s : List UInt8} {R R' : QRes} {r : RawQ} {q : Qry} (hb : b < w.heap.size) (ho : Off (fun k => k = b) (w.alloc qObj) w1) (hs1 : PSt (w.alloc qObj) w1 b s d q R) (h1 : Off (fun k => k = w.heap.size) w1 w')
    (hR : ∀ W W', PSt W W' b s d q R → ∃ q', QOwn w' w.heap.size r q' ∧ PSt W W' b s d q' R') (hk : RawOk r) : PEnd w b s d R' (.returned (RawQ.val r)) w' := by
  have h2 := hs1.off (w := w) (w' := w') (by simp) h1 (fun k e => e) hb
  obtain ⟨q', h3, h4⟩ := hR _ _ h2
  exact ⟨r, q', rfl, h3, hk, ((off_new w (fun k => k = b) qObj).trans ho).andThen h1 (fun i hi e => by omega), h4⟩
set_option maxRecDepth 100000 in
set_option maxHeartbeats 4000000 in
theorem qnot_any (s : List UInt8) (b d B0 f a : Nat) (w : World) (hT : TermC s b d B0 f) (ha : a ≤ s.length) (hf : 3 * (s.length - a) + 1 ≤ f) (hp : Psr w b s a d (.pointer none)) (ht : QTB w B0) (hB : B0 ≤ b) :
    Calls Tryz.prog 73 #[.pointer (some ⟨b, 0, none⟩)] w (PEnd w b s d ((runQ s f .term d a).then fun q b => .ok (.mk 13 0 [] 0 [q]) b)) := by
  have hbw := heap_lt hp
  have HT := Lib.hid (hT (w.alloc qObj) a ha hf (hp.below ((Below.refl w.heap.size w).alloc (Nat.le_refl _) _) hbw) (ht.below ((Below.refl B0 w).alloc (by omega) _)))
  obtain ⟨R, hR⟩ : ∃ R, runQ s f .term d a = R := ⟨_, rfl⟩
  rw [hR] at HT ⊢
  clear hT hp ht hR ha hf
  go_enter Tryz.func73, Tryz.ntmps73
  go_wp2_with fail
  refine HT.out.mono ?_
  rintro e w1 ⟨⟨o, fl, t, n, A, m, c⟩, q, rfl, hq, hk, ho, hst⟩
  have HQ := Lib.hid hq
  have HK := Lib.hid hk
  have HO := Lib.hid ho
  have HS := Lib.hid hst
  have z1 : w.heap.size < w1.heap.size := Nat.lt_of_lt_of_le (by simp) ho.size
  have HZ : QzAt w1 w.heap.size := (ho.block w.heap.size (by simp) (by omega)).trans (qzAt_new w)
  obtain ⟨r0, r1, r2, r3, r4, rf⟩ := HZ.cells
  clear HZ hq hk ho hst
  unfold RawQ.val
  dsimp only
  have hz : (w.alloc qObj).heap.size = w.heap.size + 1 := by simp
  go_wp2
  refine bodyPost_ret (v := .agg #[.int .i64 13, .int .i64 0, .string ⟨#[]⟩, .int .i64 0, .slice (some ⟨w1.heap.size, 0, none⟩) 1 1]) (by simp [results, Tryz.results73, go_sem, z1, r0, r1, r2, r3, r4]) rfl ?_
  clear r0 r1 r2 r3 r4 rf
  obtain ⟨W1, hW1⟩ : ∃ W1, ((((w1.setCell ⟨w.heap.size, 0, none⟩ (.int .i64 13)).setCell ⟨w.heap.size, 1, none⟩ (.int .i64 0)).setCell ⟨w.heap.size, 2, none⟩ (.string ⟨#[]⟩)).setCell ⟨w.heap.size, 3, none⟩ (.int .i64 0)).setCell ⟨w.heap.size, 4, none⟩ (.slice (some ⟨w1.heap.size, 0, none⟩) 1 1) = W1 := ⟨_, rfl⟩
  have h1 : Off (fun k => k = w.heap.size) w1 W1 := by
    rw [← hW1]
    iterate 5 refine Off.setCell ?_ (.inl (by rfl)) _
    exact Off.refl _ w1
  have hs1 : W1.heap.size = w1.heap.size := by rw [← hW1]; simp
  rw [hW1]
  clear hW1
  have hq1 : QOwn W1 (w.heap.size + 1) ⟨o, fl, t, n, (A, m, c)⟩ q := HQ.out.off h1 (fun k e => by rw [hz]; omega) (by rw [hz]; exact Nat.le_refl _)
  have hl := (QList.one (show w.heap.size + 1 ≤ W1.heap.size by omega) hq1 HK.out).parent 13
  rw [hs1] at hl
  obtain ⟨A', c', e', hq'⟩ := hl
  injection e' with e1 e2 e3
  subst e1
  subst e3
  exact PEnd.out (r := ⟨13, 0, [], 0, (some ⟨w1.heap.size, 0, none⟩, 1, 1)⟩) hbw HO.out HS.out (h1.alloc _) (fun W W' h => ⟨_, hq'.more (Nat.le_succ _), h.map (k := fun q => .mk 13 0 [] 0 [q])⟩) ⟨by dsimp only; omega, by dsimp only; omega, by dsimp only; omega⟩
end Go.Proofs.YtomcdhmcjndioaaGreatDoor
end
