/- Layer 37: Words at a word, a negation, a parent (printed by gen_qwords.py). Layer 37: write, Write and Right: at a leaf and at a parent. Layer 37: peek: its plain side and the words for its memory. Layer 37: the contract of peek (printed by gen_qpeek.py). Layer 37: the words for a parser in memory; is, fail. -/
import Derived.Test.YtomcdhmcjndioaaGreatDoorV09
import Derived.Test.YtomcdhmcjndioaaGreatDoorV07
section
namespace Go.Proofs.YtomcdhmcjndioaaGreatDoor
open Go.RowKit
set_option linter.unusedVariables false

theorem own_grown {w w' : World} {B b : Nat} {v : Value} {ss : List (List UInt8)} (h : OwnStrs w B v ss) (hg : w.grownBy w' (some b)) (hb : ∀ k, v.ownBlock = some k → k ≠ b) : OwnStrs w' B v ss :=
  OwnStrs.block h fun k e => hg.block k (World.ownsRow.lt h k e).2 fun e2 => hb k e (by injection e2)
theorem fin_del (W : World) (ss : List (List UInt8)) (h1 : ss.length ≤ 1) (hx : ∀ x ∈ ss, x.length ≤ 1000000) (v : Value) (B : Nat) (hv : OwnStrs W B v ss) :
    Calls Tryz.prog 21 #[v, .func (.func 22) #[] #[.pointer (some ⟨W.heap.size + 1, 0, none⟩)]] ((W.alloc (.map #[] 0)).alloc (.cells #[.map (some W.heap.size)] 55)) (fun e w' => e = .returned v ∧ OwnStrs w' B v ss ∧ Below W.heap.size W w') := by
  have h3 := MapL.made strK W
  have hb3 : Below W.heap.size W ((W.alloc (.map #[] 0)).alloc (.cells #[.map (some W.heap.size)] 55)) := ((Below.refl _ _).alloc (Nat.le_refl _) _).alloc (by simp) _
  have h4 : MapL strK ((W.alloc (.map #[] 0)).alloc (.cells #[.map (some W.heap.size)] 55)) W.heap.size (fun _ => none) 0 := h3.below ((Below.refl _ _).alloc (Nat.le_refl _) _)
  have h5 := (MapKept.heap_alloc (W.alloc (.map #[] 0)) (.cells #[.map (some W.heap.size)] 55)).1
  rw [World.size_alloc] at h5
  refine (delfn_any ss h1 hx v B W.heap.size (W.heap.size + 1) _ (hv.below hb3) h5 h4).mono ?_
  rintro e w9 ⟨rfl, hg9⟩
  exact ⟨rfl, own_grown (hv.below hb3) hg9 fun k e => (by have := (World.ownsRow.lt hv k e).2; omega), hb3.grown hg9 hb3.size (fun k e => by injection e with e; omega)⟩
theorem flat_take {wss : List (List (List UInt8))} {k : Nat} (h : k < wss.length) : (wss.take (k + 1)).flatten = (wss.take k).flatten ++ wss[k] := by
  rw [List.take_succ_eq_append_getElem h, List.flatten_append, List.flatten_singleton]
theorem flat_le : ∀ (wss : List (List (List UInt8))) (k : Nat), (wss.take k).flatten.length ≤ wss.flatten.length
  | [], k => by simp
  | a :: r, 0 => by simp
  | a :: r, k + 1 => by
    have := flat_le r k
    simp only [List.take_succ_cons, List.flatten_cons, List.length_append]
    omega
set_option maxRecDepth 100000 in
set_option maxHeartbeats 4000000 in
theorem words_word (fld : Int) (t t1 : List UInt8) (hl : listP t = [t1]) (ht : t.length ≤ 1000) (ht1 : t1.length ≤ 1000000) : WordsC (.mk 2 fld t 0 []) [t1] := by
  intro w r hr hT
  obtain ⟨A, c, rfl⟩ := leaf_open hr
  unfold RawQ.val
  dsimp only
  have hb0 : Below w.heap.size w (w.alloc (.cells #[.int .i64 2, .int .i64 fld, .string (ba t), .int .i64 0, .slice A 0 c] 25)) := (Below.refl _ _).alloc (Nat.le_refl _) _
  have HB0 := Lib.hid hb0
  have HT := Lib.hid (hT.below hb0)
  obtain ⟨W0, hW0⟩ : ∃ W0, w.alloc (.cells #[.int .i64 2, .int .i64 fld, .string (ba t), .int .i64 0, .slice A 0 c] 25) = W0 := ⟨_, rfl⟩
  have HK := Lib.hid (show WBox W0 w.heap.size ⟨2, fld, t, 0, (A, 0, c)⟩ by rw [← hW0]; exact wbox_new w ⟨2, fld, t, 0, (A, 0, c)⟩)
  have HW0 := Lib.hid hW0
  rw [hW0] at HB0 HT
  have hlist := list_any t W0 HT.out.fs HT.out.ks (by omega)
  rw [hl] at hlist
  have HL := Lib.hid hlist
  have HT1 := Lib.hid ht1
  clear hr hT hb0 hW0 hlist hl
  go_enter Tryz.func10, Tryz.ntmps10
  go_wp2_with fail
  rw [HW0.out]
  refine HL.out.mono ?_
  rintro e w1 ⟨v, rfl, hv, hb⟩
  obtain ⟨A1, c1, hvv, hc1, hc2, hst⟩ := hv.strs
  subst hvv
  have HST := Lib.hid (show Strs w1 w1.heap.size A1 1 [t1] from hst)
  have HB1 := Lib.hid hb
  have HK1 := Lib.hid (show WBox w1 w.heap.size ⟨2, fld, t, 0, (A, 0, c)⟩ from (hb.block _ (heap_lt HK.out)).trans HK.out)
  obtain ⟨x0, x1, x2, x3, x4, xl⟩ := HK1.out.cells
  have HNL := Lib.hid (OwnStrs.nil_ w1 w1.heap.size)
  have hs1 : w1.heap.size ≤ w1.heap.size := Nat.le_refl _
  clear hv hb hst hc1 hc2
  go_wp2_with (at_builtin; go_must (refine wpList_joinStr (w := w1) HNL.out hs1 HST.out (by simp) rfl (.tmp 19) (.tmp 22) 32 c1 rfl Tryz.underlying32 rfl rfl ?_); intro v6 w6 e1 e2 e3; (
    have HN6 := Lib.hid (show OwnStrs w6 w1.heap.size v6 [t1] ∧ Below w1.heap.size w1 w6 from ⟨e1, (Below.refl _ _).grown e2 hs1 (fun q e => by cases e)⟩)
    have HK6 := Lib.hid (show WBox w6 w.heap.size ⟨2, fld, t, 0, (A, 0, c)⟩ from (HN6.out.2.block _ xl).trans HK1.out)
    clear x0 x1 x2 x3 x4 e1 e2 e3
    obtain ⟨x0, x1, x2, x3, x4, -⟩ := HK6.out.cells))
  go_loopw [30, 2] (fun iv v wr => iv = .int .i64 0 ∧ v = v6 ∧ wr = w6) (fun _ _ _ => 0)
  case atStart => exact ⟨rfl, rfl, rfl⟩
  case round =>
    obtain ⟨rfl, rfl, rfl⟩ := hrel
    have HBEL := Lib.hid (HB0.out.trans ((HB1.out.trans (HN6.out.2.mono HB1.out.size)).mono HB0.out.size))
    have hdf := fin_del wr [t1] (by simp) (fun x hx => by rw [List.mem_singleton] at hx; rw [hx]; exact HT1.out) _ _ HN6.out.1
    have HDF := Lib.hid hdf
    have hmm := @run_makeMap Tryz.prog
    clear hdf
    go_wp2_with fail
    refine HDF.out.mono ?_
    rintro e w9 ⟨rfl, hv9, hb9⟩
    have HV9 := Lib.hid hv9
    have HB9 := Lib.hid (HBEL.out.trans (hb9.mono (by first | exact HBEL.out.size | omega)))
    clear hv9 hb9
    go_wp2
    go_ret
    skip
    exact ⟨_, rfl, OwnStrs.more HV9.out (Nat.le_trans HB0.out.size HB1.out.size), HB9.out⟩
set_option maxRecDepth 100000 in
set_option maxHeartbeats 4000000 in
theorem words_not (fld n : Int) (t : List UInt8) (l : List Qry) : WordsC (.mk 13 fld t n l) [] := by
  intro w r hr hT
  obtain ⟨o', f', t', n', A, m, c⟩ := r
  obtain ⟨kids, raws, e, hk, _, _⟩ := hr.open_
  injection e with e1 e2 e3 e4 e5
  subst e1 e2 e3 e4 e5
  unfold RawQ.val
  dsimp only
  have hb0 : Below w.heap.size w (w.alloc (.cells #[.int .i64 13, .int .i64 fld, .string (ba t), .int .i64 n, .slice A m c] 25)) := (Below.refl _ _).alloc (Nat.le_refl _) _
  have HB0 := Lib.hid hb0
  clear hr hT hk hb0
  go_enter Tryz.func10, Tryz.ntmps10
  have HBEL := Lib.hid HB0.out
  have hdf := fin_del (w.alloc (.cells #[.int .i64 13, .int .i64 fld, .string (ba t), .int .i64 n, .slice A m c] 25)) [] (by simp) (fun x hx => by cases hx) _ _ (OwnStrs.nil_ (w.alloc (.cells #[.int .i64 13, .int .i64 fld, .string (ba t), .int .i64 n, .slice A m c] 25)) w.heap.size)
  rw [World.size_alloc w (.cells #[.int .i64 13, .int .i64 fld, .string (ba t), .int .i64 n, .slice A m c] 25)] at hdf
  have HDF := Lib.hid hdf
  have hmm := @run_makeMap Tryz.prog
  clear hdf
  go_wp2_with fail
  refine HDF.out.mono ?_
  rintro e w9 ⟨rfl, hv9, hb9⟩
  have HV9 := Lib.hid hv9
  have HB9 := Lib.hid (HBEL.out.trans (hb9.mono (by first | exact HBEL.out.size | omega)))
  clear hv9 hb9
  go_wp2
  go_ret
  skip
  exact ⟨_, rfl, OwnStrs.more HV9.out (Nat.le_refl _), HB9.out⟩
set_option maxRecDepth 100000 in
set_option maxHeartbeats 4000000 in
theorem words_node (op fld n0 : Int) (t : List UInt8) (l : List Qry) (wss : List (List (List UInt8))) (n : Nat) (hn : l.length = n) (hws : wss.length = n) (h2 : op ≠ 2) (h3 : op ≠ 3) (h4 : op ≠ 4) (h13 : op ≠ 13) (h1 : wss.flatten.length ≤ 1) (hx : ∀ x ∈ wss.flatten, x.length ≤ 1000000)
    (IH : ∀ k (h1 : k < l.length) (h2 : k < wss.length), WordsC l[k] wss[k]) : WordsC (.mk op fld t n0 l) wss.flatten := by
  intro w r hr hT
  obtain ⟨o', f', t', n', A, m, c⟩ := r
  obtain ⟨kids, raws, e, hk, _, _⟩ := hr.open_
  injection e with e1 e2 e3 e4 e5
  subst e1 e2 e3 e4 e5
  obtain rfl : n = m := by rw [← hn, hk.size]
  unfold RawQ.val
  dsimp only
  have hmx := hk.max
  unfold maxLen at hmx
  have hb0 : Below w.heap.size w (w.alloc (.cells #[.int .i64 op, .int .i64 fld, .string (ba t), .int .i64 n0, .slice A n c] 25)) := (Below.refl _ _).alloc (Nat.le_refl _) _
  have HB0 := Lib.hid hb0
  have HKI := Lib.hid (hk.bel hb0)
  have HT := Lib.hid (hT.below hb0)
  obtain ⟨W0, hW0⟩ : ∃ W0, w.alloc (.cells #[.int .i64 op, .int .i64 fld, .string (ba t), .int .i64 n0, .slice A n c] 25) = W0 := ⟨_, rfl⟩
  have HK := Lib.hid (show WBox W0 w.heap.size ⟨op, fld, t, n0, (A, n, c)⟩ by rw [← hW0]; exact wbox_new w ⟨op, fld, t, n0, (A, n, c)⟩)
  have HW0 := Lib.hid hW0
  rw [hW0] at HB0 HKI HT
  obtain ⟨x0, x1, x2, x3, x4, xl⟩ := HK.out.cells
  have HIH := Lib.hid IH
  have HWS := Lib.hid hws
  have HNN := Lib.hid hn
  have HLE := Lib.hid h1
  have HXX := Lib.hid hx
  have g2 : (op == 2) = false := by simpa using h2
  have g3 : (op == 3) = false := by simpa using h3
  have g4 : (op == 4) = false := by simpa using h4
  have g13 : (op == 13) = false := by simpa using h13
  have g13b : (op != 13) = true := by simpa using h13
  clear hr hT hk hb0 hW0 IH hws hn h1 hx h2 h3 h4 h13
  go_enter Tryz.func10, Tryz.ntmps10
  go_wp2
  rw [HW0.out]
  go_loopw [30, 2] (fun iv v wr => ∃ k : Nat, k ≤ n ∧ iv = .int .i64 (k : Int) ∧ Hid (OwnStrs wr W0.heap.size v (wss.take k).flatten ∧ Below W0.heap.size W0 wr)) (fun iv _ _ => n - (intOf iv).toNat)
  case atStart => exact ⟨0, Nat.zero_le _, rfl, Lib.hid ⟨OwnStrs.nil_ _ _, Below.refl _ _⟩⟩
  case round =>
    obtain ⟨k, hk, rfl, HR⟩ := hrel
    by_cases hlt : k < n
    · have hk2 : (k : Int) < n := by omega
      have hkl : k < l.length := by rw [HNN.out]; exact hlt
      have hkt : k < wss.length := by rw [HWS.out]; exact hlt
      have HKD := Lib.hid (HKI.out.bel HR.out.2)
      have hkr : k < raws.length := by rw [HKD.out.len]; exact hkl
      obtain ⟨ad, rfl, la, c0, c1, c2, c3, c4, -⟩ := HKD.out.row.2 k hkr
      have hda := HKD.out.all k hkr hkl
      have hih := HIH.out k hkl hkt
      have hfl := flat_take hkt
      have hle := flat_le wss k
      have hle2 := flat_le wss (k + 1)
      obtain ⟨q, hq⟩ : ∃ q, l[k] = q := ⟨_, rfl⟩
      obtain ⟨tk, htk⟩ : ∃ t, wss[k] = t := ⟨_, rfl⟩
      obtain ⟨r, hr⟩ : ∃ r, raws[k] = r := ⟨_, rfl⟩
      rw [hq] at hda hih
      rw [htk] at hih hfl
      rw [hr] at c0 c1 c2 c3 c4 hda
      rw [hfl, List.length_append] at hle2
      obtain ⟨oa, fa, ta, na, Aa, ma, ca⟩ := r
      dsimp only at c0 c1 c2 c3 c4
      obtain ⟨ob, hob⟩ : ∃ o : Obj, .cells #[.int .i64 oa, .int .i64 fa, .string (ba ta), .int .i64 na, .slice Aa ma ca] 25 = o := ⟨_, rfl⟩
      have hbw : Below wr.heap.size wr (wr.alloc ob) := (Below.refl _ _).alloc (Nat.le_refl _) _
      have hc := hih (wr.alloc ob) _ (hda.bel hbw) ((HT.out.below HR.out.2).below hbw)
      unfold RawQ.val at hc
      dsimp only at hc
      have HC := Lib.hid hc
      have HBW := Lib.hid hbw
      have HOO := Lib.hid hob
      have HFL := Lib.hid hfl
      have HOW0 := Lib.hid (HR.out.1.below hbw)
      have hTL : (wss.take k).flatten.length + tk.length ≤ 1000000000 := by have := HLE.out; omega
      have HTL := Lib.hid hTL
      clear hq htk hkl hkt hda hih hr HKD hkr hob hbw hc hfl hle hle2 hTL
      go_wp2_with fail
      rw [HOO.out]
      refine HC.out.mono ?_
      rintro e w4 ⟨v4, rfl, hv4, hb4⟩
      obtain ⟨A4, c4', rfl, hcc1, hcc2, hst4⟩ := hv4.strs
      have HOW1 := Lib.hid (HOW0.out.below hb4)
      have HST4 := Lib.hid hst4
      have HB4 := Lib.hid (HR.out.2.trans ((HBW.out.trans (hb4.mono HBW.out.size)).mono HR.out.2.size))
      have hs4 : W0.heap.size ≤ w4.heap.size := HB4.out.size
      have HLT := Lib.hid (show ∀ b, Value.ownBlock _ = some b → W0.heap.size ≤ b from fun b e => (World.ownsRow.lt HOW1.out b e).1)
      clear hv4 hb4 hst4 hcc1 hcc2
      go_wp2_with (at_builtin; go_must (refine wpList_joinStr (w := w4) HOW1.out hs4 HST4.out (by have := HTL.out; omega) rfl (.tmp 34) (.tmp 36) 32 c4' rfl Tryz.underlying32 rfl rfl ?_); intro v6 w6 e1 e2 e3; (
        have HN6 := Lib.hid (show OwnStrs w6 W0.heap.size v6 (wss.take (k + 1)).flatten ∧ Below W0.heap.size W0 w6 from ⟨by rw [HFL.out]; exact e1, HB4.out.grown e2 hs4 (fun q e => HLT.out q e)⟩)
        clear e1 e2 e3))
      go_roundw
      case rel => exact ⟨k + 1, by omega, by go_num, HN6⟩
      case measure => simp [intOf] <;> omega
    · obtain rfl : n = k := by omega
      have HFW := Lib.hid (show (wss.take n).flatten = wss.flatten by rw [List.take_of_length_le (by rw [HWS.out]; exact Nat.le_refl _)])
      have HBEL := Lib.hid (HB0.out.trans (HR.out.2.mono HB0.out.size))
      have hdf := fin_del wr _ (by rw [HFW.out]; exact HLE.out) (by rw [HFW.out]; exact HXX.out) _ _ HR.out.1
      have HDF := Lib.hid hdf
      have hmm := @run_makeMap Tryz.prog
      clear hdf
      go_wp2_with fail
      refine HDF.out.mono ?_
      rintro e w9 ⟨rfl, hv9, hb9⟩
      have HV9 := Lib.hid hv9
      have HB9 := Lib.hid (HBEL.out.trans (hb9.mono (by first | exact HBEL.out.size | omega)))
      clear hv9 hb9
      go_wp2
      go_ret
      rw [← HFW.out]
      exact ⟨_, rfl, OwnStrs.more HV9.out HB0.out.size, HB9.out⟩
end Go.Proofs.YtomcdhmcjndioaaGreatDoor
end
section
namespace Go.Proofs.YtomcdhmcjndioaaGreatDoor
open Go.RowKit
set_option linter.unusedVariables false

/-- Whether parentheses stand around a query of kind op below one of kind i. -/
def brkQ (op i : Int) : Bool := (op == 12 && i != 0) || (op == 11 && (i == 11 || i == 13))
set_option maxRecDepth 100000 in
set_option maxHeartbeats 4000000 in
theorem bracketed_any (op fld n : Int) (t : List UInt8) (A : Option Addr) (m c : Nat) (i : Int) (w : World) :
    Calls Tryz.prog 38 #[.agg #[.int .i64 op, .int .i64 fld, .string (ba t), .int .i64 n, .slice A m c], .int .i64 i] w (WdPost w (brkQ op i)) := by
  have hb : Below w.heap.size w (w.alloc (.cells #[.int .i64 op, .int .i64 fld, .string (ba t), .int .i64 n, .slice A m c] 25)) := (Below.refl _ _).alloc (Nat.le_refl _) _
  have HB := Lib.hid hb
  have HV := Lib.hid (show brkQ op i = ((op == 12 && i != 0) || (op == 11 && (i == 11 || i == 13))) from rfl)
  obtain ⟨V, hV⟩ : ∃ V, brkQ op i = V := ⟨_, rfl⟩
  rw [hV] at HV ⊢
  clear hb hV
  by_cases h12 : op = 12
  · subst h12
    by_cases h0 : i = 0
    · subst h0
      have HE := Lib.hid (HV.out.trans rfl)
      go_enter Tryz.func38, Tryz.ntmps38
      go_wp2
      go_ret
      exact ⟨by rw [HE.out]; rfl, HB.out⟩
    · have g1 : (i == 0) = false := by simpa using h0
      have g2 : (i != 0) = true := by simpa using h0
      have HE := Lib.hid (show V = true by rw [HV.out, g2]; rfl)
      go_enter Tryz.func38, Tryz.ntmps38
      go_wp2
      go_ret
      exact ⟨by rw [HE.out]; rfl, HB.out⟩
  · have g0 : (op == 12) = false := by simpa using h12
    by_cases h11 : op = 11
    · subst h11
      by_cases h1 : i = 11
      · subst h1
        have HE := Lib.hid (show V = true by rw [HV.out]; rfl)
        go_enter Tryz.func38, Tryz.ntmps38
        go_wp2
        go_ret
        exact ⟨by rw [HE.out]; rfl, HB.out⟩
      · have g1 : (i == 11) = false := by simpa using h1
        by_cases h3 : i = 13
        · subst h3
          have HE := Lib.hid (show V = true by rw [HV.out]; rfl)
          go_enter Tryz.func38, Tryz.ntmps38
          go_wp2
          go_ret
          exact ⟨by rw [HE.out]; rfl, HB.out⟩
        · have g3 : (i == 13) = false := by simpa using h3
          have HE := Lib.hid (show V = false by rw [HV.out, g1, g3]; rfl)
          go_enter Tryz.func38, Tryz.ntmps38
          go_wp2
          go_ret
          exact ⟨by rw [HE.out]; rfl, HB.out⟩
    · have g1 : (op == 11) = false := by simpa using h11
      have HE := Lib.hid (show V = false by rw [HV.out, g0, g1]; rfl)
      go_enter Tryz.func38, Tryz.ntmps38
      go_wp2
      go_ret
      exact ⟨by rw [HE.out]; rfl, HB.out⟩
/-- What is claimed of write at the query q, at depth d below a parent of kind i. -/
def WriteC (q : Qry) (d i : Int) (o : Option (List UInt8)) : Prop := ∀ (w : World) (r : RawQ), QDeep w (fun _ => True) r q → QTabs w → PowTab w → Calls Tryz.prog 23 #[r.val, .int .i64 d, .int .i64 i] w (WrPost w o)
set_option maxRecDepth 100000 in
set_option maxHeartbeats 4000000 in
theorem write_leaf (op fld n : Int) (t : List UInt8) (d i : Int) (o : Option (List UInt8)) (h11 : op ≠ 11) (h12 : op ≠ 12) (h13 : op ≠ 13) (hd0 : 0 ≤ d) (hd : d ≤ 8) (hl : LeafC (.mk op fld t n []) o) : WriteC (.mk op fld t n []) d i o := by
  intro w r hr hT hP
  obtain ⟨A, c, rfl⟩ := leaf_open hr
  unfold RawQ.val
  dsimp only
  obtain ⟨obj, hobj⟩ : ∃ obj : Obj, .cells #[.int .i64 op, .int .i64 fld, .string (ba t), .int .i64 n, .slice A 0 c] 25 = obj := ⟨_, rfl⟩
  have HOB := Lib.hid hobj
  have hb0 : Below w.heap.size w (w.alloc obj) := (Below.refl _ _).alloc (Nat.le_refl _) _
  have HB0 := Lib.hid hb0
  have HK := Lib.hid (show WBox (w.alloc obj) w.heap.size ⟨op, fld, t, n, (A, 0, c)⟩ by rw [← hobj]; exact wbox_new w ⟨op, fld, t, n, (A, 0, c)⟩)
  have HR := Lib.hid (hr.bel hb0)
  have HT := Lib.hid (hT.below hb0)
  have HP := Lib.hid (hP.below hb0)
  have HLF := Lib.hid hl
  have HBR := Lib.hid (fun W => bracketed_any op fld n t A 0 c i W)
  rw [show brkQ op i = false by unfold brkQ; rw [show (op == 12) = false by simpa using h12, show (op == 11) = false by simpa using h11]; rfl] at HBR
  have g1 : (op == 11) = false := by simpa using h11
  have g2 : (op == 12) = false := by simpa using h12
  have g3 : (op == 13) = false := by simpa using h13
  have g4 : decide (8 < d) = false := decide_eq_false (by omega)
  have g5 : ¬ 8 < d := by omega
  unfold WdPost at HBR
  clear hr hT hP hb0 hobj hl
  go_enter Tryz.func23, Tryz.ntmps23
  go_wp2_with fail
  rw [HOB.out]
  refine (HBR.out _).mono ?_
  rintro e w1 ⟨rfl, hb1⟩
  have HK1 := Lib.hid (show WBox w1 w.heap.size ⟨op, fld, t, n, (A, 0, c)⟩ from (hb1.block _ (by simp)).trans HK.out)
  obtain ⟨x0, x1, x2, x3, x4, xl⟩ := HK1.out.cells
  have HB1 := Lib.hid (HB0.out.trans (hb1.mono HB0.out.size))
  have HR1 := Lib.hid (HR.out.bel hb1)
  have HT1 := Lib.hid (HT.out.below hb1)
  have HP1 := Lib.hid (HP.out.below hb1)
  clear hb1
  go_wp2_with fail
  go_quiet (fail)
  have hbn : Below w1.heap.size w1 (w1.drewN nq) := below_drewN w1 nq
  have HL := HLF.out (w1.drewN nq) _ (HR1.out.bel hbn) (HT1.out.below hbn) (HP1.out.below hbn)
  unfold RawQ.val at HL
  dsimp only at HL
  have HL := Lib.hid HL
  have HBN := Lib.hid hbn
  clear hbn
  go_wp2_with fail
  refine HL.out.mono ?_
  rintro e w2 ⟨t2, rfl, hx, hb2⟩
  have HX := Lib.hid hx
  have HB2 := Lib.hid (HB1.out.trans ((HBN.out.trans hb2).mono HB1.out.size))
  clear hx hb2
  go_wp2
  go_ret2
  exact ⟨t2, rfl, HX.out, HB2.out⟩
end Go.Proofs.YtomcdhmcjndioaaGreatDoor
end
section
namespace Go.Proofs.YtomcdhmcjndioaaGreatDoor
open Go.RowKit
set_option linter.unusedVariables false

theorem bare_rest0 : ∀ m : List UInt8, bareN (m.drop (bareN m)) = 0
  | [] => rfl
  | a :: r => by
    by_cases h : edgeQ a = true
    · have e : bareN (a :: r) = 0 := by unfold bareN; rw [List.takeWhile_cons_of_neg (by rw [h]; decide)]; rfl
      rw [e]; exact e
    · have h2 : edgeQ a = false := by simpa using h
      have e : bareN (a :: r) = bareN r + 1 := by unfold bareN; rw [List.takeWhile_cons_of_pos (by rw [h2]; rfl)]; rfl
      rw [e]
      exact bare_rest0 r
theorem bare_rest (l : List UInt8) (k : Nat) : BareRel l k (k + bareN (l.drop k)) ∧ bareN (l.drop (k + bareN (l.drop k))) = 0 := by
  have h := bare_rest0 (l.drop k)
  rw [List.drop_drop] at h
  exact ⟨by unfold BareRel; omega, h⟩
theorem bare_one {l : List UInt8} {k : Nat} (hk : k < l.length) (h : edgeQ l[k] = false) : 1 ≤ bareN (l.drop k) := by
  have := bareN_step hk h
  omega
theorem bareN_le (l : List UInt8) (k : Nat) (hk : k ≤ l.length) : k + bareN (l.drop k) ≤ l.length := by
  have h := (List.takeWhile_prefix (p := fun c => !edgeQ c) (l := l.drop k)).length_le
  rw [List.length_drop] at h
  unfold bareN
  omega
theorem bare_cases {l : List UInt8} {k t : Nat} (h : BareRel l k t) (h0 : bareN (l.drop t) = 0) :
    bareQ k (l.drop k) = if (t < l.length ∧ l.getD t 0 = 34) ∧ ((l.take t).drop k).getLast? = some 58 ∧ 0 < fieldQ ((l.take t).drop k).dropLast then quoQ k t (l.drop (t + 1)) (fieldQ ((l.take t).drop k).dropLast) ((l.take t).drop k) else ⟨k, t, .bare ((l.take t).drop k)⟩ := by
  have h1 := bare_text h h0
  have h2 := bare_len h h0
  by_cases hq : t < l.length ∧ l.getD t 0 = 34
  · have hg : l[t]'hq.1 = 34 := by
      have := hq.2
      rw [List.getD_eq_getElem?_getD, List.getElem?_eq_getElem hq.1] at this
      exact this
    unfold bareQ
    dsimp only
    rw [h2.1, List.drop_drop, show k + (t - k) = t by omega, h1, List.drop_eq_getElem_cons hq.1, hg]
    show (if (List.drop k (List.take t l)).getLast? = some 58 ∧ 0 < fieldQ (List.drop k (List.take t l)).dropLast then quoQ k t (List.drop (t + 1) l) (fieldQ (List.drop k (List.take t l)).dropLast) (List.drop k (List.take t l)) else _) = _
    by_cases hc : (List.drop k (List.take t l)).getLast? = some 58 ∧ 0 < fieldQ (List.drop k (List.take t l)).dropLast
    · rw [if_pos hc, if_pos ⟨hq, hc⟩]
    · rw [if_neg hc, if_neg (fun x => hc x.2)]
  · rw [if_neg (fun x => hq x.1)]
    refine bare_plain h h0 fun ht e => hq ⟨ht, ?_⟩
    rw [List.getD_eq_getElem?_getD, List.getElem?_eq_getElem ht]
    exact e
theorem edgeQ_eqp (c : UInt8) : edgeQ c = (blankQ c || c == 40 || c == 41 || c == 34) := rfl
/-- Block g holds a piece that is empty as yet. -/
def ResAt (w : World) (g : Nat) : Prop := w.heap[g]? = some (.cells #[.int .i64 0, .int .i64 0, .int .i64 0, .string ⟨#[]⟩, .int .i64 0, .bool false] 41 (0, 0))
theorem ResAt.below {w w' : World} {g B : Nat} (h : ResAt w g) (hb : Below B w w') (hg : g < B) : ResAt w' g := (hb.block g hg).trans h
theorem ResAt.cells {w : World} {g : Nat} (h : ResAt w g) : w.cell? ⟨g, 0, none⟩ = some (.int .i64 0) ∧ w.cell? ⟨g, 1, none⟩ = some (.int .i64 0) ∧ w.cell? ⟨g, 2, none⟩ = some (.int .i64 0) ∧ w.cell? ⟨g, 3, none⟩ = some (.string ⟨#[]⟩) ∧ w.cell? ⟨g, 4, none⟩ = some (.int .i64 0) ∧ w.cell? ⟨g, 5, none⟩ = some (.bool false) ∧ ∀ i, w.frozen? ⟨g, i, none⟩ = false := by
  unfold ResAt at h
  refine ⟨?_, ?_, ?_, ?_, ?_, ?_, fun i => Lib.frozen_of_heap h i⟩ <;> (rw [Lib.cell_of_heap h]; rfl)
theorem resAt_new (w : World) (o : Obj) : ResAt ((w.alloc (.cells #[.int .i64 0, .int .i64 0, .int .i64 0, .string ⟨#[]⟩, .int .i64 0, .bool false] 41)).alloc o) w.heap.size := by
  have h1 := (MapKept.heap_alloc w (.cells #[.int .i64 0, .int .i64 0, .int .i64 0, .string ⟨#[]⟩, .int .i64 0, .bool false] 41)).1
  exact (heap_alloc_old _ _ (by simp)).trans h1
end Go.Proofs.YtomcdhmcjndioaaGreatDoor
end
section
namespace Go.Proofs.YtomcdhmcjndioaaGreatDoor
open Go.RowKit
set_option linter.unusedVariables false

theorem quo_two (src a : Nat) (r : List UInt8) (f : Nat) (raw : List UInt8) : quoQ src a r f raw = ⟨a, a, .bad⟩ ∨ ∃ t m, quoQ src a r f raw = ⟨src, m, .quo t f raw⟩ := by
  unfold quoQ
  split
  · exact .inr ⟨_, _, rfl⟩
  · exact .inl rfl
set_option maxRecDepth 100000 in
set_option maxHeartbeats 4000000 in
theorem qpeek_any (l : List UInt8) (a b : Nat) (w : World) (hl : l.length ≤ 1000000000) (ha : a ≤ l.length) (hT : QTabs w) (c0 : w.cell? ⟨b, 0, none⟩ = some (.string (ba l))) (c1 : w.cell? ⟨b, 1, none⟩ = some (.int .i64 (a : Int))) :
    Calls Tryz.prog 13 #[.pointer (some ⟨b, 0, none⟩)] w (QPk w (peekQ l a)) := by
  have HT := Lib.hid hT
  have HC0 := Lib.hid c0
  obtain ⟨X, hX⟩ : ∃ X, peekQ l a = X := ⟨_, rfl⟩
  have HX0 := Lib.hid hX
  rw [hX]
  clear hX
  obtain ⟨n, hn⟩ : ∃ n, l.length = n := ⟨_, rfl⟩
  have HL := Lib.hid hn
  obtain ⟨s, hs⟩ : ∃ s, ba l = s := ⟨_, rfl⟩
  have HS := Lib.hid hs
  have HZ := Lib.hid (show s.size = n by rw [← hs, ba_size, hn])
  have hsz : (s.size : Int) = n := by rw [HZ.out]
  have hbw : b < w.heap.size := World.block_lt_of_cell? w ⟨b, 0, none⟩ c0
  rw [hs] at c0
  rw [hn] at hl ha
  clear hs hn hT
  go_enter Tryz.func13, Tryz.ntmps13
  go_wp2
  go_loop [3] (fun i => ∃ k : Nat, a ≤ k ∧ k ≤ n ∧ i = .int .i64 (k : Int) ∧ Hid (GapRel l a k)) (fun i => n - (intOf i).toNat)
  case atStart => exact ⟨a, Nat.le_refl _, ha, rfl, Lib.hid rfl⟩
  case round =>
    obtain ⟨k, hak, hk, rfl, HR⟩ := hrel
    by_cases hlt : k < n
    · have hk2 : (k : Int) < (n : Int) := by omega
      have hk0 : (0 : Int) ≤ (k : Int) := by omega
      have hks : k < s.size := by rw [HZ.out]; omega
      have hkl : k < l.length := by rw [HL.out]; omega
      have hget : s[k] = l[k] := by
        have h := HS.out
        subst h
        rfl
      have HST := Lib.hid (fun h => HR.out.trans (gap_step hkl h))
      have HSP := Lib.hid (fun h => peek_at HR.out (gap_stop hkl h))
      have T0 := Lib.hid (tok_opn hkl)
      have T1 := Lib.hid (tok_sht hkl)
      have T2 := Lib.hid (tok_quo hkl)
      have T3 := Lib.hid (tok_dash hkl)
      have T4 := Lib.hid (tok_bare hkl)
      have HB1 := Lib.hid (bare_one hkl)
      obtain ⟨c, hc⟩ : ∃ c, l[k] = c := ⟨_, rfl⟩
      rw [hc] at hget HST HSP T0 T1 T2 T3 T4 HB1
      obtain ⟨x, hx⟩ : ∃ x : Int, (c.toNat : Int) = x := ⟨_, rfl⟩
      have hgi : ((s[k]).toNat : Int) = x := by rw [hget]; exact hx
      have HX := Lib.hid hx
      have hx0 : 0 ≤ x := by omega
      have hx1 : x ≤ 255 := by have := c.toNat_lt; omega
      clear hc hkl hget hx
      have HU := Lib.hid (fun d : UInt8 => u8_int_eq' (c := c) (d := d))
      by_cases hbl : blankQ c = true
      · have HG := Lib.hid (HST.out hbl)
        go_wp2_with fail
        rw [← HX.out]
        refine (qblank_any c _).mono ?_
        rintro e w' ⟨rfl, rfl⟩
        rw [hbl]
        go_wp2
        go_round
        case rel => exact ⟨k + 1, by omega, by omega, by go_num, HG⟩
        case measure => simp [intOf] <;> omega
      · have hbl2 : blankQ c = false := by simpa using hbl
        have HPK := Lib.hid (HX0.out.symm.trans (HSP.out hbl2))
        go_wp2_with fail
        rw [← HX.out]
        refine (qblank_any c _).mono ?_
        rintro e w' ⟨rfl, rfl⟩
        rw [hbl2]
        clear hbl
        have HBL := Lib.hid hbl2
        clear hbl2
        have gkn : ((k : Int) == (n : Int)) = false := by simp; omega
        have HEX := Lib.hid (show ∀ i j, s.extract i j = ba ((l.take j).drop i) from fun i j => by rw [← HS.out]; exact ba_cut l i j)
        go_upto_block 2 with (fail)
        go_cut [] from 52 to 104 (fun wc => wc = (w.alloc (.cells #[.int .i64 0, .int .i64 0, .int .i64 0, .string ⟨#[]⟩, .int .i64 0, .bool false] 41)).alloc (.cells #[.int .i64 0, .int .i64 (k : Int), .int .i64 ((k : Int) + 1), .string ⟨#[]⟩, .int .i64 0, .bool false] 41) ∧ Hid (X = bareQ k (l.drop k)) ∧ Hid (edgeQ c = false))
        case first =>
          by_cases e40 : x = 40
          · have HF := Lib.hid (HPK.out.trans (T0.out ((HU.out 40).1 (by rw [HX.out, e40]; rfl))))
            have g1 : (x == 40) = true := by simpa using e40
            clear e40
            go_wp2
            refine bodyPost_ret (by simp [results, Tryz.results13, go_sem]; try rfl) rfl ?_
            exact qpk_end HF.out rfl (((Below.refl _ _).alloc (Nat.le_refl _) _).alloc (by simp) _)
          have g40 : (x == 40) = false := by simpa using e40
          by_cases e41 : x = 41
          · have HF := Lib.hid (HPK.out.trans (T1.out ((HU.out 41).1 (by rw [HX.out, e41]; rfl))))
            have g1 : (x == 41) = true := by simpa using e41
            clear e40 e41
            go_wp2
            refine bodyPost_ret (by simp [results, Tryz.results13, go_sem]; try rfl) rfl ?_
            exact qpk_end HF.out rfl (((Below.refl _ _).alloc (Nat.le_refl _) _).alloc (by simp) _)
          have g41 : (x == 41) = false := by simpa using e41
          by_cases e34 : x = 34
          · have HF0 := Lib.hid (HPK.out.trans (T2.out ((HU.out 34).1 (by rw [HX.out, e34]; rfl))))
            have g1 : (x == 34) = true := by simpa using e34
            clear e40 e41 e34
            go_wp2_with fail
            refine (qquoted_any l [] b k k 0 _ (by rw [HL.out]; exact hl) (by omega) (by rw [HL.out]; exact hlt) (by omega) (HT.out.below (((Below.refl w.heap.size w).alloc (Nat.le_refl _) (.cells #[.int .i64 0, .int .i64 0, .int .i64 0, .string ⟨#[]⟩, .int .i64 0, .bool false] 41)).alloc (by simp) (.cells #[.int .i64 0, .int .i64 (k : Int), .int .i64 ((k : Int) + 1), .string ⟨#[]⟩, .int .i64 0, .bool false] 41))) ?_).mono ?_
            · rw [HS.out]
              go_simp
            rintro e w3 ⟨rfl, hb3⟩
            have HB3 := Lib.hid ((((Below.refl w.heap.size w).alloc (Nat.le_refl _) (.cells #[.int .i64 0, .int .i64 0, .int .i64 0, .string ⟨#[]⟩, .int .i64 0, .bool false] 41)).alloc (by simp) (.cells #[.int .i64 0, .int .i64 (k : Int), .int .i64 ((k : Int) + 1), .string ⟨#[]⟩, .int .i64 0, .bool false] 41)).trans (hb3.mono (by simp; omega)))
            have HR3 := Lib.hid ((resAt_new w (.cells #[.int .i64 0, .int .i64 (k : Int), .int .i64 ((k : Int) + 1), .string ⟨#[]⟩, .int .i64 0, .bool false] 41)).below hb3 (by simp; omega))
            clear hb3
            obtain ⟨r0, r1, r2, r3, r4, r5, rf⟩ := HR3.out.cells
            rcases quo_two k k (l.drop (k + 1)) 0 [] with hq | ⟨t, m, hq⟩
            · have HF := Lib.hid (HF0.out.trans hq)
              rw [hq]
              clear hq
              unfold pcV
              go_wp2
              refine bodyPost_ret (v := .agg #[.int .i64 4, .int .i64 (k : Int), .int .i64 0, .string ⟨#[]⟩, .int .i64 0, .bool true]) (by simp [results, Tryz.results13, go_sem, r0, r1, r2, r3, r4, r5]) rfl ?_
              refine qpk_end HF.out rfl ?_
              repeat (first | (with_reducible exact HB3.out) | refine Below.setCell ?_ (by simp) _)
            · have HF := Lib.hid (HF0.out.trans hq)
              rw [hq]
              clear hq
              unfold pcV
              go_wp2
              refine bodyPost_ret (v := .agg #[.int .i64 4, .int .i64 (k : Int), .int .i64 (m : Int), .string (ba t), .int .i64 ((0 : Nat) : Int), .bool false]) (by simp [results, Tryz.results13, go_sem, r0, r1, r2, r3, r4, r5]) rfl ?_
              refine qpk_end HF.out rfl ?_
              repeat (first | (with_reducible exact HB3.out) | refine Below.setCell ?_ (by simp) _)
          have g34 : (x == 34) = false := by simpa using e34
          have HK := Lib.hid (show edgeQ c = false by
            rw [edgeQ_eqp, HBL.out]
            have h1 : (c == 40) = false := beq_eq_false_iff_ne.2 fun h => e40 (by rw [← HX.out, h]; rfl)
            have h2 : (c == 41) = false := beq_eq_false_iff_ne.2 fun h => e41 (by rw [← HX.out, h]; rfl)
            have h3 : (c == 34) = false := beq_eq_false_iff_ne.2 fun h => e34 (by rw [← HX.out, h]; rfl)
            rw [h1, h2, h3]
            rfl)
          have N40 := Lib.hid (show c ≠ 40 from fun h => e40 (by rw [← HX.out, h]; rfl))
          have N41 := Lib.hid (show c ≠ 41 from fun h => e41 (by rw [← HX.out, h]; rfl))
          have N34 := Lib.hid (show c ≠ 34 from fun h => e34 (by rw [← HX.out, h]; rfl))
          by_cases e45 : x = 45
          · have g45 : (x == 45) = true := by simpa using e45
            have HC := Lib.hid (show c = 45 from (HU.out 45).1 (by rw [HX.out, e45]; rfl))
            by_cases hk1 : k + 1 < n
            · have q1 : (k : Int) + 1 < (n : Int) := by omega
              have q0 : (0 : Int) ≤ (k : Int) + 1 := by omega
              have qs : k + 1 < s.size := by rw [HZ.out]; omega
              have ql : k + 1 < l.length := by rw [HL.out]; omega
              have qget : s[k + 1] = l[k + 1] := by
                have h := HS.out
                subst h
                rfl
              have HDA := Lib.hid (fun h1 h2 => HPK.out.trans (T3.out HC.out ql h1 h2))
              have HBA := Lib.hid (fun (h : blankQ l[k + 1] = true ∨ l[k + 1] = 41) => HPK.out.trans (T4.out N40.out N41.out N34.out fun _ _ => h))
              obtain ⟨d, hd⟩ : ∃ d, l[k + 1] = d := ⟨_, rfl⟩
              rw [hd] at qget HDA HBA
              obtain ⟨y, hy⟩ : ∃ y : Int, (d.toNat : Int) = y := ⟨_, rfl⟩
              have qgi : ((s[k + 1]).toNat : Int) = y := by rw [qget]; exact hy
              have HY := Lib.hid hy
              have HUD := Lib.hid (fun e : UInt8 => u8_int_eq' (c := d) (d := e))
              clear hd ql qget hy e45 e40 e41 e34
              by_cases hb1 : blankQ d = true
              · have HF := Lib.hid (HBA.out (.inl hb1))
                go_wp2_with fail
                rw [← HY.out]
                refine (qblank_any d _).mono ?_
                rintro e w' ⟨rfl, rfl⟩
                rw [hb1]
                clear hb1
                go_wp2
                go_meet
                case rel => exact ⟨rfl, HF, HK⟩
              · have hb2 : blankQ d = false := by simpa using hb1
                by_cases e : y = 41
                · have HF := Lib.hid (HBA.out (.inr ((HUD.out 41).1 (by rw [HY.out, e]; rfl))))
                  have g : (y != 41) = false := by simpa using e
                  clear e
                  go_wp2_with fail
                  rw [← HY.out]
                  refine (qblank_any d _).mono ?_
                  rintro e w' ⟨rfl, rfl⟩
                  rw [hb2]
                  clear hb1 hb2
                  go_wp2
                  go_meet
                  case rel => exact ⟨rfl, HF, HK⟩
                · have HF := Lib.hid (HDA.out hb2 (fun h => e (by rw [← HY.out, h]; rfl)))
                  have g : (y != 41) = true := by simpa using e
                  clear e
                  go_wp2_with fail
                  rw [← HY.out]
                  refine (qblank_any d _).mono ?_
                  rintro e w' ⟨rfl, rfl⟩
                  rw [hb2]
                  clear hb1 hb2
                  go_wp2
                  refine bodyPost_ret (by simp [results, Tryz.results13, go_sem]; try rfl) rfl ?_
                  exact qpk_end HF.out rfl (((Below.refl _ _).alloc (Nat.le_refl _) _).alloc (by simp) _)
            · have q1 : ¬ (k : Int) + 1 < (n : Int) := by omega
              have HF := Lib.hid (HPK.out.trans (T4.out N40.out N41.out N34.out fun _ h => absurd h (by rw [HL.out]; exact hk1)))
              clear e45 e40 e41 e34
              go_wp2
              go_meet
              case rel => exact ⟨rfl, HF, HK⟩
          · have g45 : (x == 45) = false := by simpa using e45
            have HF := Lib.hid (HPK.out.trans (T4.out N40.out N41.out N34.out fun h => absurd (by rw [← HX.out, h]; rfl) e45))
            clear e45 e40 e41 e34
            go_wp2
            go_meet
            case rel => exact ⟨rfl, HF, HK⟩
        case rest =>
          obtain ⟨rfl, HF0, HK⟩ := hcut
          clear hgi
          have hb1 := HB1.out HK.out
          have HBR := Lib.hid (bare_rest l k)
          have hble := bareN_le l k (by rw [HL.out]; exact hk)
          rw [HL.out] at hble
          have HIX := Lib.hid (edges_idx (l.drop k))
          have HLD := Lib.hid (show (l.drop k).length = n - k by rw [List.length_drop, HL.out])
          have HBC := Lib.hid (HF0.out.trans (bare_cases HBR.out.1 HBR.out.2))
          have HCALL := Lib.hid (fun W => edges_any (l.drop k) (by rw [HLD.out]; omega) W)
          have HD := Lib.hid (ba_drop l k)
          obtain ⟨v, hv⟩ : ∃ v, Lib.indexAny (l.drop k) edgesQ = v := ⟨_, rfl⟩
          rw [hv] at HIX
          simp only [hv] at HCALL
          rw [HS.out] at HD
          obtain ⟨bn, hbn⟩ : ∃ bn, bareN (l.drop k) = bn := ⟨_, rfl⟩
          rw [hbn] at HIX hb1 hble
          rw [hbn, HL.out] at HBC
          clear hv hbn HBR HB1
          go_wp2_with fail
          rw [HD.out]
          refine (HCALL.out _).mono ?_
          rintro e w3 ⟨rfl, hb3⟩
          have HB3 := Lib.hid ((((Below.refl w.heap.size w).alloc (Nat.le_refl _) (.cells #[.int .i64 0, .int .i64 0, .int .i64 0, .string ⟨#[]⟩, .int .i64 0, .bool false] 41)).alloc (by simp) (.cells #[.int .i64 0, .int .i64 (k : Int), .int .i64 ((k : Int) + 1), .string ⟨#[]⟩, .int .i64 0, .bool false] 41)).trans (hb3.mono (by simp; omega)))
          have HR3 := Lib.hid ((resAt_new w (.cells #[.int .i64 0, .int .i64 (k : Int), .int .i64 ((k : Int) + 1), .string ⟨#[]⟩, .int .i64 0, .bool false] 41)).below hb3 (by simp; omega))
          have c3 : w3.cell? ⟨b, 0, none⟩ = some (.string s) := (HB3.out.cell (p := ⟨b, 0, none⟩) hbw).trans c0
          have z3 := HB3.out.size
          have zr : w.heap.size < w3.heap.size := by have := hb3.size; simp at this; omega
          clear hb3 HCALL
          go_upto_if 113 with (fail)
          go_cut [6] from 113 to 120 (fun u wc => u = .int .i64 (bn : Int) ∧ wc = w3)
          case first =>
            rcases HIX.out with ⟨rfl, h2⟩ | ⟨rfl, h2⟩
            · have h3 : (n : Int) - (k : Int) = (bn : Int) := by rw [HLD.out] at h2; omega
              have H3 := Lib.hid h3
              clear h2 h3
              go_wp2
              go_meet
              case rel => exact ⟨by rw [H3.out], rfl⟩
            · clear h2
              go_wp2
              go_meet
              case rel => exact ⟨rfl, rfl⟩
          case rest =>
            obtain ⟨rfl, rfl⟩ := hcut
            have q1 : (k : Int) ≤ (k : Int) + (bn : Int) := by omega
            have q2 : (k : Int) + (bn : Int) ≤ (n : Int) := by omega
            have hkt : k < k + bn := by omega
            have HLA := Lib.hid (bare_last (s := l) hkt (by rw [HL.out]; exact hble))
            have HXL := Lib.hid (show ((l.take (k + bn)).drop k).length ≤ 1000000000 by rw [List.length_drop, List.length_take]; omega)
            obtain ⟨t, ht⟩ : ∃ t, (l.take (k + bn)).drop k = t := ⟨_, rfl⟩
            have HEXT := Lib.hid (show s.extract k (k + bn) = ba t by rw [← ht]; exact HEX.out _ _)
            rw [ht] at HBC HXL
            clear ht HLA hkt
            have HCS := Lib.hid (fun W => cutsuf_any 58 t W HXL.out)
            by_cases hlast : t.getLast? = some 58
            · have HDL := Lib.hid (show t.dropLast.length ≤ 1000000000 by rw [List.length_dropLast]; have := HXL.out; omega)
              have HTR := Lib.hid (show trimC 58 t = t.dropLast by unfold trimC; rw [if_pos hlast])
              have HDE := Lib.hid (show decide (t.getLast? = some 58) = true from decide_eq_true hlast)
              by_cases htn : k + bn < n
              · have t1 : (k : Int) + (bn : Int) < (n : Int) := by omega
                have t0 : (0 : Int) ≤ (k : Int) + (bn : Int) := by omega
                have ts : k + bn < s.size := by rw [HZ.out]; exact htn
                have tl : k + bn < l.length := by rw [HL.out]; exact htn
                have tget : s[k + bn] = l.getD (k + bn) 0 := by
                  have h := HS.out
                  subst h
                  rw [List.getD_eq_getElem?_getD, List.getElem?_eq_getElem tl]
                  rfl
                obtain ⟨d, hd⟩ : ∃ d, l.getD (k + bn) 0 = d := ⟨_, rfl⟩
                rw [hd] at tget HBC
                obtain ⟨y, hy⟩ : ∃ y : Int, (d.toNat : Int) = y := ⟨_, rfl⟩
                have tgi : ((s[k + bn]).toNat : Int) = y := by rw [tget]; exact hy
                have HY := Lib.hid hy
                have HUD := Lib.hid (fun e : UInt8 => u8_int_eq' (c := d) (d := e))
                clear hd tl tget hy
                by_cases e34 : y = 34
                · have g34 : (y == 34) = true := by simpa using e34
                  have HD34 := Lib.hid (show d = 34 from (HUD.out 34).1 (by rw [HY.out, e34]; rfl))
                  clear e34
                  have HFL := Lib.hid (fun W h => qfield_any t.dropLast W HDL.out h)
                  obtain ⟨F, hFF⟩ : ∃ F, fieldQ t.dropLast = F := ⟨_, rfl⟩
                  have HF5 := Lib.hid (show F ≤ 5 by rw [← hFF]; exact (field_at t.dropLast).2.2.2.2.2)
                  simp only [hFF] at HFL
                  rw [hFF] at HBC
                  clear hFF
                  go_wp2_with fail
                  rw [HEXT.out]
                  refine (HCS.out _).mono ?_
                  rintro e w' ⟨rfl, rfl⟩
                  rw [HTR.out, HDE.out]
                  go_wp2_with fail
                  refine (HFL.out w' (HT.out.below HB3.out)).mono ?_
                  rintro e w4 ⟨rfl, hb4⟩
                  have HB4 := Lib.hid (HB3.out.trans (hb4.mono HB3.out.size))
                  have HR4 := Lib.hid (HR3.out.below hb4 (by omega))
                  have z4 := hb4.size
                  clear hb4
                  by_cases hF : F = 0
                  · have HF := Lib.hid (show X = ⟨k, k + bn, .bare t⟩ by
                      rw [HBC.out, if_neg]
                      rintro ⟨_, _, h⟩
                      omega)
                    subst hF
                    obtain ⟨r0, r1, r2, r3, r4, r5, rf⟩ := HR4.out.cells
                    go_wp2
                    refine bodyPost_ret (v := .agg #[.int .i64 5, .int .i64 (k : Int), .int .i64 ((k + bn : Nat) : Int), .string (ba t), .int .i64 0, .bool false]) (by simp [results, Tryz.results13, go_sem, r0, r1, r2, r3, r4, r5]) rfl ?_
                    refine qpk_end HF.out rfl ?_
                    repeat (first | (with_reducible exact HB4.out) | refine Below.setCell ?_ (by simp) _)
                  · have hF1 : decide ((0 : Int) < (F : Int)) = true := decide_eq_true (by omega)
                    have hF2 : (0 : Int) < (F : Int) := by omega
                    have HFQ := Lib.hid (show X = quoQ k (k + bn) (l.drop (k + bn + 1)) F t by
                      rw [HBC.out, if_pos ⟨⟨htn, HD34.out⟩, hlast, by omega⟩])
                    go_wp2_with fail
                    refine (HFL.out w4 (HT.out.below HB4.out)).mono ?_
                    rintro e w5 ⟨rfl, hb5⟩
                    have HB5 := Lib.hid (HB4.out.trans (hb5.mono HB4.out.size))
                    have HR5 := Lib.hid (HR4.out.below hb5 (by omega))
                    have z5 := hb5.size
                    clear hb5
                    go_wp2_with fail
                    rw [show ((k : Int) + (bn : Int)) = ((k + bn : Nat) : Int) from by omega]
                    refine (qquoted_any l t b k (k + bn) F w5 (by rw [HL.out]; exact hl) (by omega) (by rw [HL.out]; exact htn) (by have := HF5.out; omega) (HT.out.below HB5.out) ((HB5.out.cell (p := ⟨b, 0, none⟩) hbw).trans HC0.out)).mono ?_
                    rintro e w6 ⟨rfl, hb6⟩
                    have HB6 := Lib.hid (HB5.out.trans (hb6.mono HB5.out.size))
                    have HR6 := Lib.hid (HR5.out.below hb6 (by omega))
                    have z6 := hb6.size
                    clear hb6
                    obtain ⟨r0, r1, r2, r3, r4, r5, rf⟩ := HR6.out.cells
                    rcases quo_two k (k + bn) (l.drop (k + bn + 1)) F t with hq | ⟨u, m, hq⟩
                    · have HF := Lib.hid (HFQ.out.trans hq)
                      rw [hq]
                      clear hq
                      unfold pcV
                      go_wp2
                      refine bodyPost_ret (v := .agg #[.int .i64 4, .int .i64 ((k + bn : Nat) : Int), .int .i64 0, .string ⟨#[]⟩, .int .i64 0, .bool true]) (by simp [results, Tryz.results13, go_sem, r0, r1, r2, r3, r4, r5]) rfl ?_
                      refine qpk_end HF.out rfl ?_
                      repeat (first | (with_reducible exact HB6.out) | refine Below.setCell ?_ (by simp) _)
                    · have HF := Lib.hid (HFQ.out.trans hq)
                      rw [hq]
                      clear hq
                      unfold pcV
                      go_wp2
                      refine bodyPost_ret (v := .agg #[.int .i64 4, .int .i64 (k : Int), .int .i64 (m : Int), .string (ba u), .int .i64 (F : Int), .bool false]) (by simp [results, Tryz.results13, go_sem, r0, r1, r2, r3, r4, r5]) rfl ?_
                      refine qpk_end HF.out rfl ?_
                      repeat (first | (with_reducible exact HB6.out) | refine Below.setCell ?_ (by simp) _)
                · have g34 : (y == 34) = false := by simpa using e34
                  have HF := Lib.hid (show X = ⟨k, k + bn, .bare t⟩ by
                    rw [HBC.out, if_neg]
                    rintro ⟨⟨_, h⟩, _⟩
                    exact e34 (by rw [← HY.out, h]; rfl))
                  clear e34
                  go_wp2_with fail
                  rw [HEXT.out]
                  refine (HCS.out _).mono ?_
                  rintro e w' ⟨rfl, rfl⟩
                  rw [HTR.out, HDE.out]
                  obtain ⟨r0, r1, r2, r3, r4, r5, rf⟩ := HR3.out.cells
                  go_wp2
                  refine bodyPost_ret (v := .agg #[.int .i64 5, .int .i64 (k : Int), .int .i64 ((k + bn : Nat) : Int), .string (ba t), .int .i64 0, .bool false]) (by simp [results, Tryz.results13, go_sem, r0, r1, r2, r3, r4, r5]) rfl ?_
                  refine qpk_end HF.out rfl ?_
                  repeat (first | (with_reducible exact HB3.out) | refine Below.setCell ?_ (by simp) _)
              · have t1 : ¬ (k : Int) + (bn : Int) < (n : Int) := by omega
                have HF := Lib.hid (show X = ⟨k, k + bn, .bare t⟩ by
                  rw [HBC.out, if_neg]
                  rintro ⟨⟨h, _⟩, _⟩
                  exact htn h)
                go_wp2_with fail
                rw [HEXT.out]
                refine (HCS.out _).mono ?_
                rintro e w' ⟨rfl, rfl⟩
                rw [HTR.out, HDE.out]
                obtain ⟨r0, r1, r2, r3, r4, r5, rf⟩ := HR3.out.cells
                go_wp2
                refine bodyPost_ret (v := .agg #[.int .i64 5, .int .i64 (k : Int), .int .i64 ((k + bn : Nat) : Int), .string (ba t), .int .i64 0, .bool false]) (by simp [results, Tryz.results13, go_sem, r0, r1, r2, r3, r4, r5]) rfl ?_
                refine qpk_end HF.out rfl ?_
                repeat (first | (with_reducible exact HB3.out) | refine Below.setCell ?_ (by simp) _)
            · have HDE := Lib.hid (show decide (t.getLast? = some 58) = false from decide_eq_false hlast)
              have HF := Lib.hid (show X = ⟨k, k + bn, .bare t⟩ by
                rw [HBC.out, if_neg]
                rintro ⟨_, h, _⟩
                exact hlast h)
              go_wp2_with fail
              rw [HEXT.out]
              refine (HCS.out _).mono ?_
              rintro e w' ⟨rfl, rfl⟩
              rw [HDE.out]
              obtain ⟨r0, r1, r2, r3, r4, r5, rf⟩ := HR3.out.cells
              go_wp2
              refine bodyPost_ret (v := .agg #[.int .i64 5, .int .i64 (k : Int), .int .i64 ((k + bn : Nat) : Int), .string (ba t), .int .i64 0, .bool false]) (by simp [results, Tryz.results13, go_sem, r0, r1, r2, r3, r4, r5]) rfl ?_
              refine qpk_end HF.out rfl ?_
              repeat (first | (with_reducible exact HB3.out) | refine Below.setCell ?_ (by simp) _)
    · obtain rfl : k = n := by omega
      have HF := Lib.hid (HX0.out.symm.trans ((peek_at HR.out (gap_end (by rw [HL.out]; exact Nat.le_refl _))).trans (tok_fin (by rw [HL.out]; exact Nat.le_refl _))))
      go_wp2
      refine bodyPost_ret (by simp [results, Tryz.results13, go_sem]; try rfl) rfl ?_
      exact qpk_end HF.out rfl ((Below.refl _ _).alloc (Nat.le_refl _) _)
end Go.Proofs.YtomcdhmcjndioaaGreatDoor
end
section
namespace Go.Proofs.YtomcdhmcjndioaaGreatDoor
open Go.RowKit
set_option linter.unusedVariables false

/-- The parser object at block b. -/
def Psr (w : World) (b : Nat) (s : List UInt8) (a d : Nat) (fl : Value) : Prop := w.heap[b]? = some (.cells #[.string (ba s), .int .i64 (a : Int), .int .i64 (d : Int), fl] 39 (0, 0))
theorem Psr.below {w w' : World} {B b : Nat} {s : List UInt8} {a d : Nat} {fl : Value} (h : Psr w b s a d fl) (hb : Below B w w') (hg : b < B) : Psr w' b s a d fl := (hb.block b hg).trans h
theorem Psr.off {w w' : World} {F : Nat → Prop} {b : Nat} {s : List UInt8} {a d : Nat} {fl : Value} (h : Psr w b s a d fl) (ho : Off F w w') (hf : ¬ F b) : Psr w' b s a d fl := (ho.block b (heap_lt h) hf).trans h
theorem Psr.cells {w : World} {b : Nat} {s : List UInt8} {a d : Nat} {fl : Value} (h : Psr w b s a d fl) : w.cell? ⟨b, 0, none⟩ = some (.string (ba s)) ∧ w.cell? ⟨b, 1, none⟩ = some (.int .i64 (a : Int)) ∧ w.cell? ⟨b, 2, none⟩ = some (.int .i64 (d : Int)) ∧ w.cell? ⟨b, 3, none⟩ = some fl ∧ (∀ i, w.frozen? ⟨b, i, none⟩ = false) ∧ b < w.heap.size := by
  have h0 := h
  unfold Psr at h
  refine ⟨?_, ?_, ?_, ?_, fun i => Lib.frozen_of_heap h i, heap_lt h0⟩ <;> (rw [Lib.cell_of_heap h]; rfl)
theorem set_heap {w : World} {b : Nat} {cs : Array Value} {T : TypeId} {fz : Nat × Nat} (h : w.heap[b]? = some (.cells cs T fz)) (i : Nat) (v : Value) : (w.setCell ⟨b, i, none⟩ v).heap[b]? = some (.cells (cs.setIfInBounds i v) T fz) := by
  simp only [World.setCell, Array.getElem?_modify, ↓reduceIte, h, Option.map_some]
  simp
theorem Psr.at_ {w : World} {b : Nat} {s : List UInt8} {a d : Nat} {fl : Value} (h : Psr w b s a d fl) (a' : Nat) : Psr (w.setCell ⟨b, 1, none⟩ (.int .i64 (a' : Int))) b s a' d fl := set_heap h 1 _
theorem Psr.deep {w : World} {b : Nat} {s : List UInt8} {a d : Nat} {fl : Value} (h : Psr w b s a d fl) (d' : Nat) : Psr (w.setCell ⟨b, 2, none⟩ (.int .i64 (d' : Int))) b s a d' fl := set_heap h 2 _
theorem Psr.fault {w : World} {b : Nat} {s : List UInt8} {a d : Nat} {fl : Value} (h : Psr w b s a d fl) (fl' : Value) : Psr (w.setCell ⟨b, 3, none⟩ fl') b s a d fl' := set_heap h 3 _
/-- The fault at block g. -/
def Flt (w : World) (g e a : Nat) : Prop := w.heap[g]? = some (.cells #[.int .i64 (e : Int), .int .i64 (a : Int)] 46 (0, 0))
theorem Flt.off {w w' : World} {F : Nat → Prop} {g e a : Nat} (h : Flt w g e a) (ho : Off F w w') (hf : ¬ F g) : Flt w' g e a := (ho.block g (heap_lt h) hf).trans h
/-- fail records the first fault. -/
def FailPost (w : World) (b : Nat) (s : List UInt8) (d er a : Nat) (e : Ending) (w' : World) : Prop :=
  e = .returned noRaw.val ∧ Off (fun k => k = b) w w' ∧ ∃ g, w.heap.size ≤ g ∧ g ≠ b ∧ Psr w' b s s.length d (.pointer (some ⟨g, 0, none⟩)) ∧ Flt w' g er a
/-- fail with a fault that stands. -/
def FailPost2 (w : World) (b : Nat) (s : List UInt8) (d : Nat) (fl : Value) (e : Ending) (w' : World) : Prop :=
  e = .returned noRaw.val ∧ Off (fun k => k = b) w w' ∧ Psr w' b s s.length d fl
set_option maxRecDepth 100000 in
set_option maxHeartbeats 4000000 in
theorem qfail_new (s : List UInt8) (b at0 d er a : Nat) (w : World) (hs : s.length ≤ 1000000) (hp : Psr w b s at0 d (.pointer none)) :
    Calls Tryz.prog 15 #[.pointer (some ⟨b, 0, none⟩), .int .i64 (er : Int), .int .i64 (a : Int)] w (FailPost w b s d er a) := by
  obtain ⟨c0, c1, c2, c3, cf, hbw⟩ := hp.cells
  have HP := Lib.hid hp
  have hne : ¬ w.heap.size = b := by omega
  have HZ := Lib.hid (ba_size s)
  obtain ⟨sz, hsz⟩ : ∃ z, ba s = z := ⟨_, rfl⟩
  have HSZ := Lib.hid hsz
  rw [hsz] at c0
  have hszn : (sz.size : Int) = (s.length : Int) := by rw [← hsz, ba_size]
  clear hp hsz
  go_enter Tryz.func15, Tryz.ntmps15
  go_wp2
  refine bodyPost_ret (v := .agg #[.int .i64 0, .int .i64 0, .string ⟨#[]⟩, .int .i64 0, .slice none 0 0]) (by simp [results, Tryz.results15, go_sem]; try rfl) rfl ?_
  have HPP := Lib.hid ((HP.out.fault (.pointer (some ⟨w.heap.size + 1, 0, none⟩))).at_ s.length)
  have HOF := Lib.hid (((Off.refl (fun k => k = b) w).setCell (p := ⟨b, 3, none⟩) (.inl rfl) (.pointer (some ⟨w.heap.size + 1, 0, none⟩))).setCell (p := ⟨b, 1, none⟩) (.inl rfl) (.int .i64 (s.length : Int)))
  obtain ⟨W1, hW1⟩ : ∃ W1, (w.setCell ⟨b, 3, none⟩ (.pointer (some ⟨w.heap.size + 1, 0, none⟩))).setCell ⟨b, 1, none⟩ (.int .i64 (s.length : Int)) = W1 := ⟨_, rfl⟩
  have hz : W1.heap.size = w.heap.size := by rw [← hW1]; simp
  rw [hW1] at HPP HOF ⊢
  clear hW1
  refine ⟨rfl, (HOF.out.alloc _).alloc _, w.heap.size + 1, by omega, by omega, ?_, ?_⟩
  · have h1 := heap_lt HPP.out
    exact (heap_alloc_old _ _ (by simp only [World.size_alloc]; omega)).trans ((heap_alloc_old _ _ h1).trans HPP.out)
  · have h := (MapKept.heap_alloc (W1.alloc (.cells #[.int .i64 0, .int .i64 0, .string ⟨#[]⟩, .int .i64 0, .slice none 0 0] 25)) (.cells #[.int .i64 (er : Int), .int .i64 (a : Int)] 46)).1
    rw [World.size_alloc, hz] at h
    exact h
set_option maxRecDepth 100000 in
set_option maxHeartbeats 4000000 in
theorem qfail_old (s : List UInt8) (b at0 d er a g : Nat) (w : World) (hs : s.length ≤ 1000000) (hp : Psr w b s at0 d (.pointer (some ⟨g, 0, none⟩))) :
    Calls Tryz.prog 15 #[.pointer (some ⟨b, 0, none⟩), .int .i64 (er : Int), .int .i64 (a : Int)] w (FailPost2 w b s d (.pointer (some ⟨g, 0, none⟩))) := by
  obtain ⟨c0, c1, c2, c3, cf, hbw⟩ := hp.cells
  have HP := Lib.hid hp
  have hne : ¬ w.heap.size = b := by omega
  have HZ := Lib.hid (ba_size s)
  obtain ⟨sz, hsz⟩ : ∃ z, ba s = z := ⟨_, rfl⟩
  have HSZ := Lib.hid hsz
  rw [hsz] at c0
  have hszn : (sz.size : Int) = (s.length : Int) := by rw [← hsz, ba_size]
  clear hp hsz
  go_enter Tryz.func15, Tryz.ntmps15
  go_wp2
  refine bodyPost_ret (v := .agg #[.int .i64 0, .int .i64 0, .string ⟨#[]⟩, .int .i64 0, .slice none 0 0]) (by simp [results, Tryz.results15, go_sem]; try rfl) rfl ?_
  have HPP := Lib.hid (HP.out.at_ s.length)
  have HOF := Lib.hid ((Off.refl (fun k => k = b) w).setCell (p := ⟨b, 1, none⟩) (.inl rfl) (.int .i64 (s.length : Int)))
  obtain ⟨W1, hW1⟩ : ∃ W1, w.setCell ⟨b, 1, none⟩ (.int .i64 (s.length : Int)) = W1 := ⟨_, rfl⟩
  rw [hW1] at HPP HOF ⊢
  clear hW1
  refine ⟨rfl, HOF.out.alloc _, ?_⟩
  exact (heap_alloc_old _ _ (heap_lt HPP.out)).trans HPP.out
end Go.Proofs.YtomcdhmcjndioaaGreatDoor
end
