/- Layer 37: write at a query with children (printed by gen_qnode.py). Layer 37: Write and Right at the two queries that the laws' small() parses. Layer 37: lists of queries in memory: one, grown by one, made children. Layer 37: is, joined. Layer 37: joined. Layer 37: the contract of plain. -/
import Derived.Test.YtomcdhmcjndioaaGreatDoorV10
import Derived.Test.YtomcdhmcjndioaaGreatDoorV09
section
namespace Go.Proofs.YtomcdhmcjndioaaGreatDoor
open Go.RowKit
set_option linter.unusedVariables false

theorem make_strs {m : Nat} (hm : m < 1099511627776) (W : World) : (Instr.makeSlice 32 (.int .i64 (m : Int)) (.int .i64 (m : Int))).run Tryz.prog W = .ok (.slice (some ⟨W.heap.size, 0, none⟩) m m) (W.alloc (.cells (madeCells #[.string ⟨#[]⟩] m) 9)) := by
  obtain ⟨i0, hi, hz0, hz1, hz2⟩ := info_parts (show (Tryz.prog.info? 9).map (fun i => (i.zero, i.size, i.bytes)) = some (some (.string ⟨#[]⟩), 1, 16) by kernel_rfl)
  have := run_make (P := Tryz.prog) W 32 9 i0 (.string ⟨#[]⟩) Tryz.underlying32 hi hz0 .i64 .i64 (m : Int) (m : Int) (by omega) (Int.le_refl _) (by rw [hz2]; omega) (by omega)
  rw [this, hz1]
  simp [Value.cells]
/-- A row of n strings, the first k of them set. -/
def rowW (ts : List (List UInt8)) (n k : Nat) : Array Value := ((ts.take k).map (fun t => Value.string (ba t)) ++ List.replicate (n - k) (Value.string ⟨#[]⟩)).toArray
theorem rowW_zero (ts : List (List UInt8)) (n : Nat) : madeCells #[.string ⟨#[]⟩] n = rowW ts n 0 := by
  apply Array.ext_getElem?
  intro i
  by_cases hi : i < n
  · simp [madeCells, rowW, hi, Nat.mod_one]
  · simp [madeCells, rowW, hi]
theorem rowW_set (ts : List (List UInt8)) (n k : Nat) (hk : k < n) (hn : ts.length = n) : (rowW ts n k).setIfInBounds k (.string (ba (ts[k]'(by omega)))) = rowW ts n (k + 1) := by
  have h1 : (ts.take k).length = k := by rw [List.length_take]; omega
  unfold rowW
  rw [List.setIfInBounds_toArray, List.set_append_right _ _ (by rw [List.length_map, h1]; exact Nat.le_refl _), List.length_map, h1, Nat.sub_self]
  obtain ⟨m, hm⟩ : ∃ m, n - k = m + 1 := ⟨n - k - 1, by omega⟩
  rw [hm, List.replicate_succ, List.set_cons_zero, show n - (k + 1) = m by omega, List.take_succ_eq_append_getElem (by omega), List.map_append, List.append_assoc]
  rfl
theorem rowW_own {w : World} {B g n : Nat} {ts : List (List UInt8)} (hn : ts.length = n) (hB : B ≤ g) (h0 : n ≤ 1000) (h : w.heap[g]? = some (.cells (rowW ts n n) 9 (0, 0))) : OwnStrs w B (.slice (some ⟨g, 0, none⟩) n n) ts := by
  have e : rowW ts n n = (sv ts).toArray := by
    unfold rowW sv
    rw [List.take_of_length_le (by omega), Nat.sub_self, List.replicate_zero, List.append_nil]
  rw [e] at h
  have hl : (sv ts).length = n := by unfold sv; rw [List.length_map, hn]
  refine ⟨by rw [hl, hn, Nat.mul_one], .inr ⟨g, n, (sv ts).toArray, by rw [hn], hB, h, by omega, by unfold maxLen; omega, by simp [hl], ?_⟩⟩
  rw [List.take_of_length_le (by simp; omega)]
structure WnRel (w : World) (g : Nat) (ts : List (List UInt8)) (n k : Nat) (wr : World) : Prop where
  row : wr.heap[g]? = some (.cells (rowW ts n k) 9 (0, 0))
  bel : Below w.heap.size w wr
theorem qjoinS_any (sep : List UInt8) (ss : List (List UInt8)) (v : Value) (B : Nat) (w : World) (hs : OwnStrs w B v ss) (h0 : 0 < ss.length) (hn : ss.length ≤ 140737488355328) (hl : (Lib.join ss sep).length ≤ 140737488355328) :
    Calls Tryz.prog 40 #[v, .string (ba sep)] w (StrB w (Lib.join ss sep)) := by
  rcases hs.2 with ⟨rfl, h1⟩ | ⟨g, cap, cur, rfl, hb, hg, h1, h2, h3, h4⟩
  · omega
  · have hj : Lib.join ((ss.map ba).map (·.data.toList)) (ba sep).data.toList = Lib.join ss sep := by
      rw [List.map_map, show ((fun x : ByteArray => x.data.toList) ∘ ba) = id from funext fun y => ba_list y, List.map_id, ba_list]
    have hlen : (ss.map ba).length = ss.length := List.length_map _
    have := Tryz.strings_Join g 0 cap (ss.map ba) (ba sep) w (fun j x hx => by
      rw [List.getElem?_map] at hx
      obtain ⟨y, hy, rfl⟩ := Option.map_eq_some_iff.1 hx
      have hc := World.ownsRow.cells hs (g := g) rfl j (.string (ba y)) (by unfold sv; rw [List.getElem?_map, hy]; rfl)
      have e : (⟨g, 0, none⟩ : Addr).add j = ⟨g, 0 + j, none⟩ := by
        unfold Addr.add
        split
        · rename_i h; subst h; rfl
        · rfl
      rw [← e]; exact hc) (heap_lt hg) (by rw [hlen]; exact hn) (by rw [hlen]; exact h1) (by rw [hj]; exact hl)
    rw [hj, hlen] at this
    exact this
set_option maxRecDepth 100000 in
set_option maxHeartbeats 4000000 in
theorem write_and (l : List Qry) (ts : List (List UInt8)) (d i : Int) (n : Nat) (hn : l.length = n) (hts : ts.length = n) (hlo : 2 ≤ n) (hhi : n ≤ 100) (hbr : brkQ 11 i = false) (hd0 : 0 ≤ d) (hd : d ≤ 8) (hj : (Lib.join ts [32]).length ≤ 1000000)
    (IH : ∀ k (h1 : k < l.length) (h2 : k < ts.length), WriteC l[k] (d) 11 (some ts[k])) : WriteC (.mk 11 0 [] 0 l) d i (some (Lib.join ts [32])) := by
  intro w r hr hT hP
  obtain ⟨o', f', t', n', A, m, c⟩ := r
  obtain ⟨kids, raws, e, hk, _, _⟩ := hr.open_
  injection e with e1 e2 e3 e4 e5
  subst e1 e2 e3 e4 e5
  obtain rfl : n = m := by rw [← hn, hk.size]
  unfold RawQ.val
  dsimp only
  show Calls _ _ #[.agg #[.int .i64 11, .int .i64 0, .string ⟨#[]⟩, .int .i64 0, .slice A n c], .int .i64 d, .int .i64 i] _ _
  obtain ⟨obj, hobj⟩ : ∃ obj : Obj, .cells #[.int .i64 11, .int .i64 0, .string ⟨#[]⟩, .int .i64 0, .slice A n c] 25 = obj := ⟨_, rfl⟩
  have HOB := Lib.hid hobj
  have hb0 : Below w.heap.size w (w.alloc obj) := (Below.refl _ _).alloc (Nat.le_refl _) _
  have HB0 := Lib.hid hb0
  have HK := Lib.hid (show WBox (w.alloc obj) w.heap.size ⟨11, 0, [], 0, (A, n, c)⟩ by rw [← hobj]; exact wbox_new w ⟨11, 0, [], 0, (A, n, c)⟩)
  have HKI := Lib.hid (hk.bel hb0)
  have HT := Lib.hid (hT.below hb0)
  have HP := Lib.hid (hP.below hb0)
  have HIH := Lib.hid IH
  have HBR := Lib.hid (fun W => bracketed_any 11 0 0 [] A n c i W)
  rw [hbr] at HBR
  unfold WdPost at HBR
  have HJ := Lib.hid hj
  have HTS := Lib.hid hts
  have HNN := Lib.hid hn
  have g4 : decide (8 < d) = false := decide_eq_false (by omega)
  have g5 : ¬ 8 < d := by omega
  have g6 : decide ((n : Int) < 2) = false := decide_eq_false (by omega)
  have g7 : ¬ (n : Int) < 2 := by omega
  clear hr hT hP hb0 hobj hk IH hbr hj hts hn
  go_enter Tryz.func23, Tryz.ntmps23
  go_wp2_with fail
  rw [HOB.out]
  refine (HBR.out _).mono ?_
  rintro e w1 ⟨rfl, hb1⟩
  have HK1 := Lib.hid (show WBox w1 w.heap.size ⟨11, 0, [], 0, (A, n, c)⟩ from (hb1.block _ (by simp)).trans HK.out)
  obtain ⟨x0, x1, x2, x3, x4, xl⟩ := HK1.out.cells
  replace x2 : w1.cell? ⟨w.heap.size, 2, none⟩ = some (.string ⟨#[]⟩) := x2
  have HB1 := Lib.hid (HB0.out.trans (hb1.mono HB0.out.size))
  have HKI1 := Lib.hid (HKI.out.bel hb1)
  have HT1 := Lib.hid (HT.out.below hb1)
  have HP1 := Lib.hid (HP.out.below hb1)
  clear hb1
  go_wp2_with fail
  go_quiet (fail)
  have hbn : Below w1.heap.size w1 (w1.drewN nq) := below_drewN w1 nq
  have HKI2 := Lib.hid (HKI1.out.bel hbn)
  have HT2 := Lib.hid (HT1.out.below hbn)
  have HP2 := Lib.hid (HP1.out.below hbn)
  have HK2 := Lib.hid (show WBox (w1.drewN nq) w.heap.size ⟨11, 0, [], 0, (A, n, c)⟩ from HK1.out)
  have HB2 := Lib.hid (HB1.out.trans (hbn.mono HB1.out.size))
  obtain ⟨w2, hw2⟩ : ∃ w2, w1.drewN nq = w2 := ⟨_, rfl⟩
  rw [hw2] at HKI2 HT2 HP2 HK2 HB2 ⊢
  clear hbn hw2 x0 x1 x2 x3 x4 xl
  obtain ⟨x0, x1, x2, x3, x4, xl⟩ := HK2.out.cells
  replace x2 : w2.cell? ⟨w.heap.size, 2, none⟩ = some (.string ⟨#[]⟩) := x2
  have hmk := make_strs (m := n) (by omega)
  have hm0 := make_strs (m := n) (by omega) w2
  obtain ⟨O3, hO3⟩ : ∃ o : Obj, .cells (madeCells #[.string ⟨#[]⟩] n) 9 = o := ⟨_, rfl⟩
  have HO3 := Lib.hid hO3
  have HST := Lib.hid (show WnRel w2 w2.heap.size ts n 0 (w2.alloc O3) from ⟨by rw [← hO3, rowW_zero ts n]; exact (MapKept.heap_alloc w2 _).1, (Below.refl _ _).alloc (Nat.le_refl _) _⟩)
  clear hO3 hm0
  go_wp2_with fail
  try rw [HO3.out]
  go_loopw [77] (fun iv wr => ∃ k : Nat, k ≤ n ∧ iv = .int .i64 (k : Int) ∧ Hid (WnRel w2 w2.heap.size ts n k wr)) (fun iv _ => n - (intOf iv).toNat)
  case atStart => exact ⟨0, Nat.zero_le _, rfl, HST⟩
  case round =>
    obtain ⟨k, hk, rfl, HR⟩ := hrel
    have HKR := Lib.hid (show WBox wr w.heap.size ⟨11, 0, [], 0, (A, n, c)⟩ from (HR.out.bel.block _ xl).trans HK2.out)
    clear x0 x1 x2 x3 x4 hmk
    obtain ⟨x0, x1, x2, x3, x4, -⟩ := HKR.out.cells
    have hgl : w2.heap.size < wr.heap.size := heap_lt HR.out.row
    have hxl : w.heap.size < wr.heap.size := heap_lt HKR.out
    by_cases hlt : k < n
    · have hk2 : (k : Int) < n := by omega
      have hkl : k < l.length := by rw [HNN.out]; exact hlt
      have hkt : k < ts.length := by rw [HTS.out]; exact hlt
      have HKD := Lib.hid (HKI2.out.bel HR.out.bel)
      have hkr : k < raws.length := by rw [HKD.out.len]; exact hkl
      obtain ⟨ad, rfl, la, c0, c1, c2, c3, c4, -⟩ := HKD.out.row.2 k hkr
      have hda := HKD.out.all k hkr hkl
      have hih := HIH.out k hkl hkt
      have HRS := Lib.hid (rowW_set ts n k hlt HTS.out)
      obtain ⟨q, hq⟩ : ∃ q, l[k] = q := ⟨_, rfl⟩
      obtain ⟨tk, htk⟩ : ∃ t, ts[k] = t := ⟨_, rfl⟩
      obtain ⟨r, hr⟩ : ∃ r, raws[k] = r := ⟨_, rfl⟩
      rw [hq] at hda hih
      rw [htk] at hih HRS
      rw [hr] at c0 c1 c2 c3 c4 hda
      obtain ⟨oa, fa, ta, na, Aa, ma, ca⟩ := r
      dsimp only at c0 c1 c2 c3 c4
      obtain ⟨ob, hob⟩ : ∃ o : Obj, .cells #[.int .i64 oa, .int .i64 fa, .string (ba ta), .int .i64 na, .slice Aa ma ca] 25 = o := ⟨_, rfl⟩
      have hbw : Below wr.heap.size wr (wr.alloc ob) := (Below.refl _ _).alloc (Nat.le_refl _) _
      have hc := hih (wr.alloc ob) _ (hda.bel hbw) ((HT2.out.below HR.out.bel).below hbw) ((HP2.out.below HR.out.bel).below hbw)
      unfold RawQ.val at hc
      dsimp only at hc
      have HC := Lib.hid hc
      have HBW := Lib.hid hbw
      have HOO := Lib.hid hob
      clear hq htk hkl hkt hda hih hr HKD hkr hob hbw hc
      go_wp2_with fail
      rw [HOO.out]
      refine HC.out.mono ?_
      rintro e w4 ⟨t4, rfl, hx4, hb4⟩
      obtain rfl : tk = t4 := hx4 tk rfl
      have hbr4 : Below wr.heap.size wr w4 := HBW.out.trans (hb4.mono HBW.out.size)
      have HR4 := Lib.hid (show w4.heap[w2.heap.size]? = some (.cells (rowW ts n k) 9 (0, 0)) from (hbr4.block _ hgl).trans HR.out.row)
      have HBB := Lib.hid (HR.out.bel.trans (hbr4.mono HR.out.bel.size))
      have hfz : w4.frozen? ⟨w2.heap.size, k, none⟩ = false := Lib.frozen_of_heap HR4.out k
      obtain ⟨u, hu⟩ : ∃ u, (rowW ts n k)[k]? = some u := ⟨_, Array.getElem?_eq_getElem (by unfold rowW; simp; have := HTS.out; omega)⟩
      have hcell : w4.cell? ⟨w2.heap.size, k, none⟩ = some u := by rw [Lib.cell_of_heap HR4.out]; exact hu
      clear hx4 hb4 hbr4 hu c0 c1 c2 c3 c4
      simp only [Option.isSome_some]
      go_wp2
      have HNX := Lib.hid (show WnRel w2 w2.heap.size ts n (k + 1) (w4.setCell ⟨w2.heap.size, k, none⟩ (.string (ba tk))) from ⟨by rw [← HRS.out]; exact set_heap HR4.out k _, HBB.out.setCell (Nat.le_refl _) _⟩)
      go_roundw
      case rel => exact ⟨k + 1, by omega, by go_num, HNX⟩
      case measure => simp [intOf] <;> omega
    · obtain rfl : n = k := by omega
      have hbw : Below wr.heap.size wr wr := Below.refl _ _
      have hjn := qjoinS_any [32] ts (.slice (some ⟨w2.heap.size, 0, none⟩) n n) w2.heap.size wr (rowW_own HTS.out (Nat.le_refl _) (by omega) HR.out.row) (by have := HTS.out; omega) (by have := HTS.out; omega) (by have := HJ.out; omega)
      unfold StrB at hjn
      have HJN := Lib.hid hjn
      obtain ⟨J, hJ⟩ : ∃ J, Lib.join ts [32] = J := ⟨_, rfl⟩
      have HJE := Lib.hid hJ
      rw [hJ] at HJN HJ
      have HBE := Lib.hid (HB2.out.trans (HR.out.bel.mono HB2.out.size))
      clear hbw hjn hJ
      go_wp2_with fail
      refine HJN.out.mono ?_
      rintro e w5 ⟨rfl, hb5⟩
      have HK5 := Lib.hid (show WBox w5 w.heap.size ⟨11, 0, [], 0, (A, n, c)⟩ from (hb5.block _ (heap_lt HKR.out)).trans HKR.out)
      have HB5 := Lib.hid (HBE.out.trans (hb5.mono HBE.out.size))
      clear hb5 x0 x1 x2 x3 x4
      obtain ⟨x0, x1, x2, x3, x4, -⟩ := HK5.out.cells
      replace x2 : w5.cell? ⟨w.heap.size, 2, none⟩ = some (.string ⟨#[]⟩) := x2
      go_wp2_with fail
      refine (HBR.out _).mono ?_
      rintro e w6 ⟨rfl, hb6⟩
      have HB6 := Lib.hid (HB5.out.trans (hb6.mono HB5.out.size))
      clear hb6
      go_wp2
      go_ret2
      exact ⟨J, rfl, (fun x h => (Option.some.inj h).symm.trans HJE.out), HB6.out⟩
set_option maxRecDepth 100000 in
set_option maxHeartbeats 4000000 in
theorem write_not (l : List Qry) (ts : List (List UInt8)) (d i : Int) (n : Nat) (hn : l.length = n) (hts : ts.length = n) (hlo : n = 1) (hhi : n ≤ 100) (hbr : brkQ 13 i = false) (hd0 : 0 ≤ d) (hd : d + 1 ≤ 8) (hj : (Lib.join ts [32]).length ≤ 1000000)
    (IH : ∀ k (h1 : k < l.length) (h2 : k < ts.length), WriteC l[k] (d + 1) 13 (some ts[k])) : WriteC (.mk 13 0 [] 0 l) d i (some (45 :: Lib.join ts [32])) := by
  intro w r hr hT hP
  obtain ⟨o', f', t', n', A, m, c⟩ := r
  obtain ⟨kids, raws, e, hk, _, _⟩ := hr.open_
  injection e with e1 e2 e3 e4 e5
  subst e1 e2 e3 e4 e5
  obtain rfl : n = m := by rw [← hn, hk.size]
  subst hlo
  unfold RawQ.val
  dsimp only
  show Calls _ _ #[.agg #[.int .i64 13, .int .i64 0, .string ⟨#[]⟩, .int .i64 0, .slice A 1 c], .int .i64 d, .int .i64 i] _ _
  obtain ⟨obj, hobj⟩ : ∃ obj : Obj, .cells #[.int .i64 13, .int .i64 0, .string ⟨#[]⟩, .int .i64 0, .slice A 1 c] 25 = obj := ⟨_, rfl⟩
  have HOB := Lib.hid hobj
  have hb0 : Below w.heap.size w (w.alloc obj) := (Below.refl _ _).alloc (Nat.le_refl _) _
  have HB0 := Lib.hid hb0
  have HK := Lib.hid (show WBox (w.alloc obj) w.heap.size ⟨13, 0, [], 0, (A, 1, c)⟩ by rw [← hobj]; exact wbox_new w ⟨13, 0, [], 0, (A, 1, c)⟩)
  have HKI := Lib.hid (hk.bel hb0)
  have HT := Lib.hid (hT.below hb0)
  have HP := Lib.hid (hP.below hb0)
  have HIH := Lib.hid IH
  have HBR := Lib.hid (fun W => bracketed_any 13 0 0 [] A 1 c i W)
  rw [hbr] at HBR
  unfold WdPost at HBR
  have HJ := Lib.hid hj
  have HTS := Lib.hid hts
  have HNN := Lib.hid hn
  have g4 : decide (8 < d + 1) = false := decide_eq_false (by omega)
  have g5 : ¬ 8 < d + 1 := by omega
  clear hr hT hP hb0 hobj hk IH hbr hj hts hn
  go_enter Tryz.func23, Tryz.ntmps23
  go_wp2_with fail
  rw [HOB.out]
  refine (HBR.out _).mono ?_
  rintro e w1 ⟨rfl, hb1⟩
  have HK1 := Lib.hid (show WBox w1 w.heap.size ⟨13, 0, [], 0, (A, 1, c)⟩ from (hb1.block _ (by simp)).trans HK.out)
  obtain ⟨x0, x1, x2, x3, x4, xl⟩ := HK1.out.cells
  replace x2 : w1.cell? ⟨w.heap.size, 2, none⟩ = some (.string ⟨#[]⟩) := x2
  have HB1 := Lib.hid (HB0.out.trans (hb1.mono HB0.out.size))
  have HKI1 := Lib.hid (HKI.out.bel hb1)
  have HT1 := Lib.hid (HT.out.below hb1)
  have HP1 := Lib.hid (HP.out.below hb1)
  clear hb1
  go_wp2_with fail
  go_quiet (fail)
  have hbn : Below w1.heap.size w1 (w1.drewN nq) := below_drewN w1 nq
  have HKI2 := Lib.hid (HKI1.out.bel hbn)
  have HT2 := Lib.hid (HT1.out.below hbn)
  have HP2 := Lib.hid (HP1.out.below hbn)
  have HK2 := Lib.hid (show WBox (w1.drewN nq) w.heap.size ⟨13, 0, [], 0, (A, 1, c)⟩ from HK1.out)
  have HB2 := Lib.hid (HB1.out.trans (hbn.mono HB1.out.size))
  obtain ⟨w2, hw2⟩ : ∃ w2, w1.drewN nq = w2 := ⟨_, rfl⟩
  rw [hw2] at HKI2 HT2 HP2 HK2 HB2 ⊢
  clear hbn hw2 x0 x1 x2 x3 x4 xl
  obtain ⟨x0, x1, x2, x3, x4, xl⟩ := HK2.out.cells
  replace x2 : w2.cell? ⟨w.heap.size, 2, none⟩ = some (.string ⟨#[]⟩) := x2
  have hmk : ∀ W : World, (Instr.makeSlice 32 (.int .i64 1) (.int .i64 1)).run Tryz.prog W = .ok (.slice (some ⟨W.heap.size, 0, none⟩) 1 1) (W.alloc (.cells (madeCells #[.string ⟨#[]⟩] 1) 9)) := fun W => make_strs (m := 1) (by omega) W
  have hm0 := make_strs (m := 1) (by omega) w2
  obtain ⟨O3, hO3⟩ : ∃ o : Obj, .cells (madeCells #[.string ⟨#[]⟩] 1) 9 = o := ⟨_, rfl⟩
  have HO3 := Lib.hid hO3
  have HST := Lib.hid (show WnRel w2 w2.heap.size ts 1 0 (w2.alloc O3) from ⟨by rw [← hO3, rowW_zero ts 1]; exact (MapKept.heap_alloc w2 _).1, (Below.refl _ _).alloc (Nat.le_refl _) _⟩)
  clear hO3 hm0
  go_wp2_with fail
  try rw [HO3.out]
  go_loopw [77] (fun iv wr => ∃ k : Nat, k ≤ 1 ∧ iv = .int .i64 (k : Int) ∧ Hid (WnRel w2 w2.heap.size ts 1 k wr)) (fun iv _ => 1 - (intOf iv).toNat)
  case atStart => exact ⟨0, Nat.zero_le _, rfl, HST⟩
  case round =>
    obtain ⟨k, hk, rfl, HR⟩ := hrel
    have HKR := Lib.hid (show WBox wr w.heap.size ⟨13, 0, [], 0, (A, 1, c)⟩ from (HR.out.bel.block _ xl).trans HK2.out)
    clear x0 x1 x2 x3 x4 hmk
    obtain ⟨x0, x1, x2, x3, x4, -⟩ := HKR.out.cells
    have hgl : w2.heap.size < wr.heap.size := heap_lt HR.out.row
    have hxl : w.heap.size < wr.heap.size := heap_lt HKR.out
    by_cases hlt : k < 1
    · have hk2 : (k : Int) < 1 := by omega
      have hkl : k < l.length := by rw [HNN.out]; exact hlt
      have hkt : k < ts.length := by rw [HTS.out]; exact hlt
      have HKD := Lib.hid (HKI2.out.bel HR.out.bel)
      have hkr : k < raws.length := by rw [HKD.out.len]; exact hkl
      obtain ⟨ad, rfl, la, c0, c1, c2, c3, c4, -⟩ := HKD.out.row.2 k hkr
      have hda := HKD.out.all k hkr hkl
      have hih := HIH.out k hkl hkt
      have HRS := Lib.hid (rowW_set ts 1 k hlt HTS.out)
      obtain ⟨q, hq⟩ : ∃ q, l[k] = q := ⟨_, rfl⟩
      obtain ⟨tk, htk⟩ : ∃ t, ts[k] = t := ⟨_, rfl⟩
      obtain ⟨r, hr⟩ : ∃ r, raws[k] = r := ⟨_, rfl⟩
      rw [hq] at hda hih
      rw [htk] at hih HRS
      rw [hr] at c0 c1 c2 c3 c4 hda
      obtain ⟨oa, fa, ta, na, Aa, ma, ca⟩ := r
      dsimp only at c0 c1 c2 c3 c4
      obtain ⟨ob, hob⟩ : ∃ o : Obj, .cells #[.int .i64 oa, .int .i64 fa, .string (ba ta), .int .i64 na, .slice Aa ma ca] 25 = o := ⟨_, rfl⟩
      have hbw : Below wr.heap.size wr (wr.alloc ob) := (Below.refl _ _).alloc (Nat.le_refl _) _
      have hc := hih (wr.alloc ob) _ (hda.bel hbw) ((HT2.out.below HR.out.bel).below hbw) ((HP2.out.below HR.out.bel).below hbw)
      unfold RawQ.val at hc
      dsimp only at hc
      have HC := Lib.hid hc
      have HBW := Lib.hid hbw
      have HOO := Lib.hid hob
      clear hq htk hkl hkt hda hih hr HKD hkr hob hbw hc
      go_wp2_with fail
      rw [HOO.out]
      refine HC.out.mono ?_
      rintro e w4 ⟨t4, rfl, hx4, hb4⟩
      obtain rfl : tk = t4 := hx4 tk rfl
      have hbr4 : Below wr.heap.size wr w4 := HBW.out.trans (hb4.mono HBW.out.size)
      have HR4 := Lib.hid (show w4.heap[w2.heap.size]? = some (.cells (rowW ts 1 k) 9 (0, 0)) from (hbr4.block _ hgl).trans HR.out.row)
      have HBB := Lib.hid (HR.out.bel.trans (hbr4.mono HR.out.bel.size))
      have hfz : w4.frozen? ⟨w2.heap.size, k, none⟩ = false := Lib.frozen_of_heap HR4.out k
      obtain ⟨u, hu⟩ : ∃ u, (rowW ts 1 k)[k]? = some u := ⟨_, Array.getElem?_eq_getElem (by unfold rowW; simp; have := HTS.out; omega)⟩
      have hcell : w4.cell? ⟨w2.heap.size, k, none⟩ = some u := by rw [Lib.cell_of_heap HR4.out]; exact hu
      clear hx4 hb4 hbr4 hu c0 c1 c2 c3 c4
      simp only [Option.isSome_some]
      go_wp2
      have HNX := Lib.hid (show WnRel w2 w2.heap.size ts 1 (k + 1) (w4.setCell ⟨w2.heap.size, k, none⟩ (.string (ba tk))) from ⟨by rw [← HRS.out]; exact set_heap HR4.out k _, HBB.out.setCell (Nat.le_refl _) _⟩)
      go_roundw
      case rel => exact ⟨k + 1, by omega, by go_num, HNX⟩
      case measure => simp [intOf] <;> omega
    · obtain rfl : 1 = k := by omega
      have hbw : Below wr.heap.size wr wr := Below.refl _ _
      have hjn := qjoinS_any [32] ts (.slice (some ⟨w2.heap.size, 0, none⟩) 1 1) w2.heap.size wr (rowW_own HTS.out (Nat.le_refl _) (by omega) HR.out.row) (by have := HTS.out; omega) (by have := HTS.out; omega) (by have := HJ.out; omega)
      unfold StrB at hjn
      have HJN := Lib.hid hjn
      obtain ⟨J, hJ⟩ : ∃ J, Lib.join ts [32] = J := ⟨_, rfl⟩
      have HJE := Lib.hid hJ
      rw [hJ] at HJN HJ
      have HBE := Lib.hid (HB2.out.trans (HR.out.bel.mono HB2.out.size))
      clear hbw hjn hJ
      go_wp2_with fail
      refine HJN.out.mono ?_
      rintro e w5 ⟨rfl, hb5⟩
      have HK5 := Lib.hid (show WBox w5 w.heap.size ⟨13, 0, [], 0, (A, 1, c)⟩ from (hb5.block _ (heap_lt HKR.out)).trans HKR.out)
      have HB5 := Lib.hid (HBE.out.trans (hb5.mono HBE.out.size))
      clear hb5 x0 x1 x2 x3 x4
      obtain ⟨x0, x1, x2, x3, x4, -⟩ := HK5.out.cells
      replace x2 : w5.cell? ⟨w.heap.size, 2, none⟩ = some (.string ⟨#[]⟩) := x2
      have s1 : ¬ 9223372036854775807 < 1 + (ba J).size := by rw [ba_size]; have := HJ.out; omega
      have e1 : (⟨#[45]⟩ : ByteArray) ++ ba J = ba (45 :: J) := ba_append [45] J
      go_wp2
      go_ret2
      exact ⟨45 :: J, rfl, (fun x h => (Option.some.inj h).symm.trans (by rw [HJE.out])), HB5.out⟩
set_option maxRecDepth 100000 in
set_option maxHeartbeats 4000000 in
theorem write_or (l : List Qry) (ts : List (List UInt8)) (d i : Int) (n : Nat) (hn : l.length = n) (hts : ts.length = n) (hlo : 2 ≤ n) (hhi : n ≤ 100) (hbr : brkQ 12 i = true) (hd0 : 0 ≤ d) (hd : d + 1 ≤ 8) (hj : (Lib.join ts [32, 79, 82, 32]).length ≤ 1000000)
    (IH : ∀ k (h1 : k < l.length) (h2 : k < ts.length), WriteC l[k] (d + 1) 12 (some ts[k])) : WriteC (.mk 12 0 [] 0 l) d i (some (40 :: (Lib.join ts [32, 79, 82, 32] ++ [41]))) := by
  intro w r hr hT hP
  obtain ⟨o', f', t', n', A, m, c⟩ := r
  obtain ⟨kids, raws, e, hk, _, _⟩ := hr.open_
  injection e with e1 e2 e3 e4 e5
  subst e1 e2 e3 e4 e5
  obtain rfl : n = m := by rw [← hn, hk.size]
  unfold RawQ.val
  dsimp only
  show Calls _ _ #[.agg #[.int .i64 12, .int .i64 0, .string ⟨#[]⟩, .int .i64 0, .slice A n c], .int .i64 d, .int .i64 i] _ _
  obtain ⟨obj, hobj⟩ : ∃ obj : Obj, .cells #[.int .i64 12, .int .i64 0, .string ⟨#[]⟩, .int .i64 0, .slice A n c] 25 = obj := ⟨_, rfl⟩
  have HOB := Lib.hid hobj
  have hb0 : Below w.heap.size w (w.alloc obj) := (Below.refl _ _).alloc (Nat.le_refl _) _
  have HB0 := Lib.hid hb0
  have HK := Lib.hid (show WBox (w.alloc obj) w.heap.size ⟨12, 0, [], 0, (A, n, c)⟩ by rw [← hobj]; exact wbox_new w ⟨12, 0, [], 0, (A, n, c)⟩)
  have HKI := Lib.hid (hk.bel hb0)
  have HT := Lib.hid (hT.below hb0)
  have HP := Lib.hid (hP.below hb0)
  have HIH := Lib.hid IH
  have HBR := Lib.hid (fun W => bracketed_any 12 0 0 [] A n c i W)
  rw [hbr] at HBR
  unfold WdPost at HBR
  have HJ := Lib.hid hj
  have HTS := Lib.hid hts
  have HNN := Lib.hid hn
  have g4 : decide (8 < d + 1) = false := decide_eq_false (by omega)
  have g5 : ¬ 8 < d + 1 := by omega
  have g6 : decide ((n : Int) < 2) = false := decide_eq_false (by omega)
  have g7 : ¬ (n : Int) < 2 := by omega
  clear hr hT hP hb0 hobj hk IH hbr hj hts hn
  go_enter Tryz.func23, Tryz.ntmps23
  go_wp2_with fail
  rw [HOB.out]
  refine (HBR.out _).mono ?_
  rintro e w1 ⟨rfl, hb1⟩
  have HK1 := Lib.hid (show WBox w1 w.heap.size ⟨12, 0, [], 0, (A, n, c)⟩ from (hb1.block _ (by simp)).trans HK.out)
  obtain ⟨x0, x1, x2, x3, x4, xl⟩ := HK1.out.cells
  replace x2 : w1.cell? ⟨w.heap.size, 2, none⟩ = some (.string ⟨#[]⟩) := x2
  have HB1 := Lib.hid (HB0.out.trans (hb1.mono HB0.out.size))
  have HKI1 := Lib.hid (HKI.out.bel hb1)
  have HT1 := Lib.hid (HT.out.below hb1)
  have HP1 := Lib.hid (HP.out.below hb1)
  clear hb1
  go_wp2_with fail
  go_quiet (fail)
  have hbn : Below w1.heap.size w1 (w1.drewN nq) := below_drewN w1 nq
  have HKI2 := Lib.hid (HKI1.out.bel hbn)
  have HT2 := Lib.hid (HT1.out.below hbn)
  have HP2 := Lib.hid (HP1.out.below hbn)
  have HK2 := Lib.hid (show WBox (w1.drewN nq) w.heap.size ⟨12, 0, [], 0, (A, n, c)⟩ from HK1.out)
  have HB2 := Lib.hid (HB1.out.trans (hbn.mono HB1.out.size))
  obtain ⟨w2, hw2⟩ : ∃ w2, w1.drewN nq = w2 := ⟨_, rfl⟩
  rw [hw2] at HKI2 HT2 HP2 HK2 HB2 ⊢
  clear hbn hw2 x0 x1 x2 x3 x4 xl
  obtain ⟨x0, x1, x2, x3, x4, xl⟩ := HK2.out.cells
  replace x2 : w2.cell? ⟨w.heap.size, 2, none⟩ = some (.string ⟨#[]⟩) := x2
  have hmk := make_strs (m := n) (by omega)
  have hm0 := make_strs (m := n) (by omega) w2
  obtain ⟨O3, hO3⟩ : ∃ o : Obj, .cells (madeCells #[.string ⟨#[]⟩] n) 9 = o := ⟨_, rfl⟩
  have HO3 := Lib.hid hO3
  have HST := Lib.hid (show WnRel w2 w2.heap.size ts n 0 (w2.alloc O3) from ⟨by rw [← hO3, rowW_zero ts n]; exact (MapKept.heap_alloc w2 _).1, (Below.refl _ _).alloc (Nat.le_refl _) _⟩)
  clear hO3 hm0
  go_wp2_with fail
  try rw [HO3.out]
  go_loopw [77] (fun iv wr => ∃ k : Nat, k ≤ n ∧ iv = .int .i64 (k : Int) ∧ Hid (WnRel w2 w2.heap.size ts n k wr)) (fun iv _ => n - (intOf iv).toNat)
  case atStart => exact ⟨0, Nat.zero_le _, rfl, HST⟩
  case round =>
    obtain ⟨k, hk, rfl, HR⟩ := hrel
    have HKR := Lib.hid (show WBox wr w.heap.size ⟨12, 0, [], 0, (A, n, c)⟩ from (HR.out.bel.block _ xl).trans HK2.out)
    clear x0 x1 x2 x3 x4 hmk
    obtain ⟨x0, x1, x2, x3, x4, -⟩ := HKR.out.cells
    have hgl : w2.heap.size < wr.heap.size := heap_lt HR.out.row
    have hxl : w.heap.size < wr.heap.size := heap_lt HKR.out
    by_cases hlt : k < n
    · have hk2 : (k : Int) < n := by omega
      have hkl : k < l.length := by rw [HNN.out]; exact hlt
      have hkt : k < ts.length := by rw [HTS.out]; exact hlt
      have HKD := Lib.hid (HKI2.out.bel HR.out.bel)
      have hkr : k < raws.length := by rw [HKD.out.len]; exact hkl
      obtain ⟨ad, rfl, la, c0, c1, c2, c3, c4, -⟩ := HKD.out.row.2 k hkr
      have hda := HKD.out.all k hkr hkl
      have hih := HIH.out k hkl hkt
      have HRS := Lib.hid (rowW_set ts n k hlt HTS.out)
      obtain ⟨q, hq⟩ : ∃ q, l[k] = q := ⟨_, rfl⟩
      obtain ⟨tk, htk⟩ : ∃ t, ts[k] = t := ⟨_, rfl⟩
      obtain ⟨r, hr⟩ : ∃ r, raws[k] = r := ⟨_, rfl⟩
      rw [hq] at hda hih
      rw [htk] at hih HRS
      rw [hr] at c0 c1 c2 c3 c4 hda
      obtain ⟨oa, fa, ta, na, Aa, ma, ca⟩ := r
      dsimp only at c0 c1 c2 c3 c4
      obtain ⟨ob, hob⟩ : ∃ o : Obj, .cells #[.int .i64 oa, .int .i64 fa, .string (ba ta), .int .i64 na, .slice Aa ma ca] 25 = o := ⟨_, rfl⟩
      have hbw : Below wr.heap.size wr (wr.alloc ob) := (Below.refl _ _).alloc (Nat.le_refl _) _
      have hc := hih (wr.alloc ob) _ (hda.bel hbw) ((HT2.out.below HR.out.bel).below hbw) ((HP2.out.below HR.out.bel).below hbw)
      unfold RawQ.val at hc
      dsimp only at hc
      have HC := Lib.hid hc
      have HBW := Lib.hid hbw
      have HOO := Lib.hid hob
      clear hq htk hkl hkt hda hih hr HKD hkr hob hbw hc
      go_wp2_with fail
      rw [HOO.out]
      refine HC.out.mono ?_
      rintro e w4 ⟨t4, rfl, hx4, hb4⟩
      obtain rfl : tk = t4 := hx4 tk rfl
      have hbr4 : Below wr.heap.size wr w4 := HBW.out.trans (hb4.mono HBW.out.size)
      have HR4 := Lib.hid (show w4.heap[w2.heap.size]? = some (.cells (rowW ts n k) 9 (0, 0)) from (hbr4.block _ hgl).trans HR.out.row)
      have HBB := Lib.hid (HR.out.bel.trans (hbr4.mono HR.out.bel.size))
      have hfz : w4.frozen? ⟨w2.heap.size, k, none⟩ = false := Lib.frozen_of_heap HR4.out k
      obtain ⟨u, hu⟩ : ∃ u, (rowW ts n k)[k]? = some u := ⟨_, Array.getElem?_eq_getElem (by unfold rowW; simp; have := HTS.out; omega)⟩
      have hcell : w4.cell? ⟨w2.heap.size, k, none⟩ = some u := by rw [Lib.cell_of_heap HR4.out]; exact hu
      clear hx4 hb4 hbr4 hu c0 c1 c2 c3 c4
      simp only [Option.isSome_some]
      go_wp2
      have HNX := Lib.hid (show WnRel w2 w2.heap.size ts n (k + 1) (w4.setCell ⟨w2.heap.size, k, none⟩ (.string (ba tk))) from ⟨by rw [← HRS.out]; exact set_heap HR4.out k _, HBB.out.setCell (Nat.le_refl _) _⟩)
      go_roundw
      case rel => exact ⟨k + 1, by omega, by go_num, HNX⟩
      case measure => simp [intOf] <;> omega
    · obtain rfl : n = k := by omega
      have hbw : Below wr.heap.size wr wr := Below.refl _ _
      have hjn := qjoinS_any [32, 79, 82, 32] ts (.slice (some ⟨w2.heap.size, 0, none⟩) n n) w2.heap.size wr (rowW_own HTS.out (Nat.le_refl _) (by omega) HR.out.row) (by have := HTS.out; omega) (by have := HTS.out; omega) (by have := HJ.out; omega)
      unfold StrB at hjn
      have HJN := Lib.hid hjn
      obtain ⟨J, hJ⟩ : ∃ J, Lib.join ts [32, 79, 82, 32] = J := ⟨_, rfl⟩
      have HJE := Lib.hid hJ
      rw [hJ] at HJN HJ
      have HBE := Lib.hid (HB2.out.trans (HR.out.bel.mono HB2.out.size))
      clear hbw hjn hJ
      go_wp2_with fail
      refine HJN.out.mono ?_
      rintro e w5 ⟨rfl, hb5⟩
      have HK5 := Lib.hid (show WBox w5 w.heap.size ⟨12, 0, [], 0, (A, n, c)⟩ from (hb5.block _ (heap_lt HKR.out)).trans HKR.out)
      have HB5 := Lib.hid (HBE.out.trans (hb5.mono HBE.out.size))
      clear hb5 x0 x1 x2 x3 x4
      obtain ⟨x0, x1, x2, x3, x4, -⟩ := HK5.out.cells
      replace x2 : w5.cell? ⟨w.heap.size, 2, none⟩ = some (.string ⟨#[]⟩) := x2
      have s1 : ¬ 9223372036854775807 < 1 + (ba J).size := by rw [ba_size]; have := HJ.out; omega
      have e1 : (⟨#[40]⟩ : ByteArray) ++ ba J = ba (40 :: J) := ba_append [40] J
      have s2 : ¬ 9223372036854775807 < (ba (40 :: J)).size + 1 := by rw [ba_size, List.length_cons]; have := HJ.out; omega
      have e2 : ba (40 :: J) ++ (⟨#[41]⟩ : ByteArray) = ba (40 :: (J ++ [41])) := ba_append (40 :: J) [41]
      obtain ⟨JJ, hJJ⟩ : ∃ JJ, ba (40 :: J) = JJ := ⟨_, rfl⟩
      rw [hJJ] at e1 s2 e2
      go_wp2_with fail
      refine (HBR.out _).mono ?_
      rintro e w6 ⟨rfl, hb6⟩
      have HB6 := Lib.hid (HB5.out.trans (hb6.mono HB5.out.size))
      clear hb6
      go_wp2
      go_ret2
      exact ⟨40 :: (J ++ [41]), rfl, (fun x h => (Option.some.inj h).symm.trans (by rw [HJE.out])), HB6.out⟩
end Go.Proofs.YtomcdhmcjndioaaGreatDoor
end
section
namespace Go.Proofs.YtomcdhmcjndioaaGreatDoor
open Go.RowKit
set_option linter.unusedVariables false

/-- The queries of small(). -/
def orT : Qry := .mk 12 0 [] 0 [.mk 2 0 [120] 0 [], .mk 3 0 [121, 32, 122] 0 []]
def qT : Qry := .mk 11 0 [] 0 [.mk 2 1 [97, 110, 110] 0 [], .mk 13 0 [] 0 [orT], .mk 9 0 [] 2048 []]
def nT : Qry := .mk 13 0 [] 0 [.mk 4 0 [100] 0 []]
def rT : Qry := .mk 11 0 [] 0 [.mk 5 0 [115, 101, 101, 110] 0 [], .mk 7 0 [] 946771200 [], .mk 3 2 [97, 98, 32, 99] 0 [], nT, .mk 6 0 [] 7 []]
def txtQ : List UInt8 := [102, 114, 111, 109, 58, 97, 110, 110, 32, 45, 40, 120, 32, 79, 82, 32, 34, 121, 32, 122, 34, 41, 32, 108, 97, 114, 103, 101, 114, 58, 50, 75]
def txtR : List UInt8 := [105, 115, 58, 115, 101, 101, 110, 32, 98, 101, 102, 111, 114, 101, 58, 50, 48, 48, 48, 45, 48, 49, 45, 48, 50, 32, 116, 111, 58, 34, 97, 98, 32, 99, 34, 32, 45, 100, 42, 32, 105, 110, 58, 55]
theorem write_orT : WriteC orT 1 13 (some [40, 120, 32, 79, 82, 32, 34, 121, 32, 122, 34, 41]) := by
  have h := write_or [.mk 2 0 [120] 0 [], .mk 3 0 [121, 32, 122] 0 []] [[120], [34, 121, 32, 122, 34]] 1 13 2 rfl rfl (by decide) (by decide) rfl (by decide) (by decide) (by decide) fun k h1 h2 => by
    match k, h1 with
    | 0, _ => exact write_leaf 2 0 0 _ (1 + 1) 12 _ (by decide) (by decide) (by decide) (by decide) (by decide) leaf_L2
    | 1, _ => exact write_leaf 3 0 0 _ (1 + 1) 12 _ (by decide) (by decide) (by decide) (by decide) (by decide) leaf_L3
  exact h
theorem write_notT : WriteC (.mk 13 0 [] 0 [orT]) 0 11 (some [45, 40, 120, 32, 79, 82, 32, 34, 121, 32, 122, 34, 41]) := by
  have h := write_not [orT] [[40, 120, 32, 79, 82, 32, 34, 121, 32, 122, 34, 41]] 0 11 1 rfl rfl rfl (by decide) rfl (by decide) (by decide) (by decide) fun k h1 h2 => by
    match k, h1 with
    | 0, _ => exact write_orT
  exact h
theorem write_qT : WriteC qT 0 0 (some txtQ) := by
  have h := write_and [.mk 2 1 [97, 110, 110] 0 [], .mk 13 0 [] 0 [orT], .mk 9 0 [] 2048 []] [[102, 114, 111, 109, 58, 97, 110, 110], [45, 40, 120, 32, 79, 82, 32, 34, 121, 32, 122, 34, 41], [108, 97, 114, 103, 101, 114, 58, 50, 75]] 0 0 3 rfl rfl (by decide) (by decide) rfl (by decide) (by decide) (by decide) fun k h1 h2 => by
    match k, h1 with
    | 0, _ => exact write_leaf 2 1 0 _ 0 11 _ (by decide) (by decide) (by decide) (by decide) (by decide) leaf_L1
    | 1, _ => exact write_notT
    | 2, _ => exact write_leaf 9 0 2048 _ 0 11 _ (by decide) (by decide) (by decide) (by decide) (by decide) leaf_L4
  exact h
theorem write_nT : WriteC nT 0 11 (some [45, 100, 42]) := by
  have h := write_not [.mk 4 0 [100] 0 []] [[100, 42]] 0 11 1 rfl rfl rfl (by decide) rfl (by decide) (by decide) (by decide) fun k h1 h2 => by
    match k, h1 with
    | 0, _ => exact write_leaf 4 0 0 _ (0 + 1) 13 _ (by decide) (by decide) (by decide) (by decide) (by decide) leaf_L8
  exact h
theorem write_rT : WriteC rT 0 0 (some txtR) := by
  have h := write_and [.mk 5 0 [115, 101, 101, 110] 0 [], .mk 7 0 [] 946771200 [], .mk 3 2 [97, 98, 32, 99] 0 [], nT, .mk 6 0 [] 7 []] [[105, 115, 58, 115, 101, 101, 110], [98, 101, 102, 111, 114, 101, 58, 50, 48, 48, 48, 45, 48, 49, 45, 48, 50], [116, 111, 58, 34, 97, 98, 32, 99, 34], [45, 100, 42], [105, 110, 58, 55]] 0 0 5 rfl rfl (by decide) (by decide) rfl (by decide) (by decide) (by decide) fun k h1 h2 => by
    match k, h1 with
    | 0, _ => exact write_leaf 5 0 0 _ 0 11 _ (by decide) (by decide) (by decide) (by decide) (by decide) leaf_L5
    | 1, _ => exact write_leaf 7 0 946771200 _ 0 11 _ (by decide) (by decide) (by decide) (by decide) (by decide) leaf_L6
    | 2, _ => exact write_leaf 3 2 0 _ 0 11 _ (by decide) (by decide) (by decide) (by decide) (by decide) leaf_L7
    | 3, _ => exact write_nT
    | 4, _ => exact write_leaf 6 0 7 _ 0 11 _ (by decide) (by decide) (by decide) (by decide) (by decide) leaf_L9
  exact h
theorem write_bad : WriteC (.mk 2 0 [97, 32, 98] 0 []) 0 0 none := write_leaf 2 0 0 _ 0 0 _ (by decide) (by decide) (by decide) (by decide) (by decide) leaf_L10
set_option maxRecDepth 100000 in
set_option maxHeartbeats 4000000 in
theorem qwrite_any (q : Qry) (t : List UInt8) (h : WriteC q 0 0 (some t)) (r : RawQ) (w : World) (hr : QDeep w (fun _ => True) r q) (hT : QTabs w) (hP : PowTab w) : Calls Tryz.prog 11 #[r.val] w (StrB w t) := by
  obtain ⟨o, f, x, n, A, m, c⟩ := r
  have hb0 : Below w.heap.size w (w.alloc (.cells #[.int .i64 o, .int .i64 f, .string (ba x), .int .i64 n, .slice A m c] 25)) := (Below.refl _ _).alloc (Nat.le_refl _) _
  have hw := h _ ⟨o, f, x, n, (A, m, c)⟩ (hr.bel hb0) (hT.below hb0) (hP.below hb0)
  have HB0 := Lib.hid hb0
  unfold RawQ.val at hw ⊢
  dsimp only at hw ⊢
  have HW := Lib.hid hw
  clear hw h hr hT hP hb0
  go_enter Tryz.func11, Tryz.ntmps11
  go_wp2_with fail
  refine HW.out.mono ?_
  rintro e w1 ⟨t1, rfl, hx, hb1⟩
  obtain rfl : t = t1 := hx t rfl
  have HB1 := Lib.hid (HB0.out.trans (hb1.mono HB0.out.size))
  clear hx hb1
  simp only [Option.isSome_some]
  go_wp2
  go_ret
  exact ⟨rfl, HB1.out⟩
set_option maxRecDepth 100000 in
set_option maxHeartbeats 4000000 in
theorem qright_any (q : Qry) (o : Option (List UInt8)) (hop : q.op ≠ 1) (h : WriteC q 0 0 o) (r : RawQ) (w : World) (hr : QDeep w (fun _ => True) r q) (hT : QTabs w) (hP : PowTab w) : Calls Tryz.prog 12 #[r.val] w (WdPost w o.isSome) := by
  obtain ⟨op, f, x, n, A, m, c⟩ := r
  have hb0 : Below w.heap.size w (w.alloc (.cells #[.int .i64 op, .int .i64 f, .string (ba x), .int .i64 n, .slice A m c] 25)) := (Below.refl _ _).alloc (Nat.le_refl _) _
  have hop1 : op ≠ 1 := by
    obtain ⟨kids, raws, e, _⟩ := hr.open_
    rw [e] at hop
    exact hop
  have hw := h _ ⟨op, f, x, n, (A, m, c)⟩ (hr.bel hb0) (hT.below hb0) (hP.below hb0)
  unfold RawQ.val at hw ⊢
  dsimp only at hw ⊢
  have HW := Lib.hid hw
  have HB0 := Lib.hid hb0
  have g1 : (op == 1) = false := by simpa using hop1
  obtain ⟨V, hV⟩ : ∃ V, o.isSome = V := ⟨_, rfl⟩
  unfold WrPost at HW
  rw [hV] at HW ⊢
  clear hw h hr hT hP hb0 hop
  go_enter Tryz.func12, Tryz.ntmps12
  go_wp2_with fail
  refine HW.out.mono ?_
  rintro e w1 ⟨t1, rfl, hx, hb1⟩
  have HB1 := Lib.hid (HB0.out.trans (hb1.mono HB0.out.size))
  clear hx hb1
  go_wp2
  go_ret
  exact ⟨rfl, HB1.out⟩
end Go.Proofs.YtomcdhmcjndioaaGreatDoor
end
section
namespace Go.Proofs.YtomcdhmcjndioaaGreatDoor
open Go.RowKit
set_option linter.unusedVariables false

theorem QDeep.kept {w w' : World} {P P' : Nat → Prop} {r : RawQ} {q : Qry} (h : QDeep w P r q) (hs : w.heap.size ≤ w'.heap.size) (hb : ∀ b, P b → b < w.heap.size → w'.heap[b]? = w.heap[b]?) (hP : ∀ b, P b → b < w.heap.size → P' b) : QDeep w' P' r q :=
  QDeep.keep (QDeep.lt h) hs (fun b hb' => hb b hb'.1 hb'.2) (fun b hb' => hP b hb'.1 hb'.2)
theorem OwnRaws.one (w : World) (B : Nat) (hB : B ≤ w.heap.size) (r : RawQ) (hk : RawOk r) : OwnRaws (w.alloc (.cells #[.int .i64 r.op, .int .i64 r.fld, .string (ba r.text), .int .i64 r.n, .slice r.kids.1 r.kids.2.1 r.kids.2.2] 25)) B (.slice (some ⟨w.heap.size, 0, none⟩) 1 1) [r] :=
  ⟨World.ownsRow_lit w _ 1 hB (by unfold maxLen; omega) rfl, fun t ht => by rw [List.mem_singleton] at ht; rw [ht]; exact hk⟩
theorem QList.one {w : World} {B : Nat} (hB : B ≤ w.heap.size) {r : RawQ} {q : Qry} (h : QOwn w B r q) (hk : RawOk r) : QList (w.alloc (.cells #[.int .i64 r.op, .int .i64 r.fld, .string (ba r.text), .int .i64 r.n, .slice r.kids.1 r.kids.2.1 r.kids.2.2] 25)) B (.slice (some ⟨w.heap.size, 0, none⟩) 1 1) [q] := by
  refine ⟨[r], OwnRaws.one w B hB r hk, rfl, fun i h1 h2 => ?_⟩
  obtain rfl : i = 0 := by simp at h1; omega
  refine QDeep.kept h (by simp) (fun b _ hb => heap_alloc_old _ _ hb) (fun b hb hlt => ⟨hb, fun e => ?_⟩)
  have : w.heap.size = b := by injection e
  omega
theorem QList.below {w w' : World} {B : Nat} {v : Value} {l : List Qry} (h : QList w B v l) (hb : Below w.heap.size w w') : QList w' B v l := by
  obtain ⟨raws, h1, h2, h3⟩ := h.row
  exact ⟨raws, h1.below hb, h2, fun i a b => (h3 i a b).kept hb.size (fun k _ hk => hb.block k hk) (fun k hk _ => hk)⟩
theorem QList.off {w w' : World} {F : Nat → Prop} {B : Nat} {v : Value} {l : List Qry} (h : QList w B v l) (ho : Off F w w') (hF : ∀ k, F k → k < B) : QList w' B v l := by
  obtain ⟨raws, h1, h2, h3⟩ := h.row
  refine ⟨raws, h1.block fun b hb => ?_, h2, fun i a b => (h3 i a b).kept ho.size (fun k hk hlt => ?_) (fun k hk _ => hk)⟩
  · obtain ⟨g1, g2⟩ := h1.row.lt b hb
    exact ho.block b g2 fun e => by have := hF b e; omega
  · exact ho.block k hlt fun e => by have := hF k e; have := hk.1; omega
/-- The list behind an append of one more. -/
theorem QList.push {w w' : World} {B : Nat} {v v' : Value} {l : List Qry} {raws : List RawQ} {r : RawQ} {q : Qry} (h2 : raws.length = l.length) (h3 : ∀ i (a : i < raws.length) (b : i < l.length), QDeep w (fun b => B ≤ b ∧ v.ownBlock ≠ some b) raws[i] l[i])
    (hr : QDeep w (fun b => B ≤ b ∧ v.ownBlock ≠ some b) r q) (ho : OwnRaws w' B v' (raws ++ [r])) (hg : w.grownBy w' v.ownBlock) (hn : v'.ownBlock = v.ownBlock ∨ ∃ k, v'.ownBlock = some k ∧ w.heap.size ≤ k) : QList w' B v' (l ++ [q]) := by
  have key : ∀ (r : RawQ) (q : Qry), QDeep w (fun b => B ≤ b ∧ v.ownBlock ≠ some b) r q → QDeep w' (fun b => B ≤ b ∧ v'.ownBlock ≠ some b) r q := fun r q h => by
    refine h.kept hg.size (fun k hk hlt => hg.block k hlt (Ne.symm hk.2)) (fun k hk hlt => ⟨hk.1, fun e => ?_⟩)
    rcases hn with e2 | ⟨j, e2, hj⟩
    · exact hk.2 (e2 ▸ e)
    · rw [e2] at e
      have : j = k := by injection e
      omega
  refine ⟨raws ++ [r], ho, by simp [h2], fun i a b => ?_⟩
  by_cases hi : i < raws.length
  · rw [List.getElem_append_left hi, List.getElem_append_left (by omega)]
    exact key _ _ (h3 i hi (by omega))
  · have e1 : i = raws.length := by simp at a; omega
    subst e1
    rw [List.getElem_append_right (by omega), List.getElem_append_right (by omega)]
    simp only [Nat.sub_self, h2, List.getElem_cons_zero]
    exact key _ _ hr
/-- A query whose children the list holds. -/
theorem QList.parent {w : World} {B : Nat} {v : Value} {l : List Qry} (h : QList w B v l) (op : Int) : ∃ A c, v = .slice A l.length c ∧ QOwn w B ⟨op, 0, [], 0, (A, l.length, c)⟩ (.mk op 0 [] 0 l) := by
  obtain ⟨raws, h1, h2, h3⟩ := h.row
  obtain ⟨A, c, e, hc1, hc2, hr⟩ := h1.reads
  rw [h2] at e hc1 hr
  refine ⟨A, c, e, ?_⟩
  refine .mk hr (fun ad ha h0 => ?_) h2 hc1 hc2 (fun i a b => (h3 i a b).more fun k hk => hk.1)
  have := (h1.row.lt ad.block (by rw [e, ha]; rfl)).1
  exact this
/-- A list of one: its query lies in the first cells. -/
theorem QList.only {w : World} {B : Nat} {v : Value} {q : Qry} (h : QList w B v [q]) : ∃ ad c r, v = .slice (some ad) 1 c ∧ 1 ≤ c ∧ QOwn w B r q ∧ RawOk r ∧ ad.block < w.heap.size ∧ w.cell? ad = some (.int .i64 r.op) ∧ w.cell? ⟨ad.block, ad.off + 1, none⟩ = some (.int .i64 r.fld) ∧ w.cell? ⟨ad.block, ad.off + 2, none⟩ = some (.string (ba r.text)) ∧ w.cell? ⟨ad.block, ad.off + 3, none⟩ = some (.int .i64 r.n) ∧ w.cell? ⟨ad.block, ad.off + 4, none⟩ = some (.slice r.kids.1 r.kids.2.1 r.kids.2.2) := by
  obtain ⟨raws, h1, h2, h3⟩ := h.row
  obtain ⟨A, c, e, hc1, hc2, hr⟩ := h1.reads
  match raws, h2 with
  | [r], _ =>
    obtain ⟨ad, ha, hlt, c0, c1, c2, c3, c4, hk⟩ := hr.2 0 (by simp)
    have e0 : ad.add (0 * 5) = ad := by unfold Addr.add; rfl
    rw [e0] at c0 c1 c2 c3 c4 hlt
    subst ha
    exact ⟨ad, c, r, e, hc1, (h3 0 (by simp) (by simp)).more fun k hk => hk.1, hk, hlt, c0, c1, c2, c3, c4⟩
end Go.Proofs.YtomcdhmcjndioaaGreatDoor
end
section
namespace Go.Proofs.YtomcdhmcjndioaaGreatDoor
open Go.RowKit
set_option linter.unusedVariables false

theorem is_facts {t wd : List UInt8} {T W : ByteArray} (hT : ba t = T) (hW : ba wd = W) : (T.toList == W.toList) = decide (t = wd) ∧ decide (T = W) = decide (t = wd) ∧ decide (T.toList = W.toList) = decide (t = wd) ∧ (T = W ↔ t = wd) ∧ (T.toList = W.toList ↔ t = wd) := by
  subst hT; subst hW
  have e : ba t = ba wd ↔ t = wd := ba_inj
  have e2 : (ba t).toList = (ba wd).toList ↔ t = wd := by rw [ba_toList, ba_toList]
  refine ⟨?_, ?_, ?_, e, e2⟩
  · rw [Bool.eq_iff_iff, decide_eq_true_iff, beq_iff_eq]; exact e2
  · rw [Bool.eq_iff_iff, decide_eq_true_iff, decide_eq_true_iff]; exact e
  · rw [Bool.eq_iff_iff, decide_eq_true_iff, decide_eq_true_iff]; exact e2
def IsPost (w : World) (v : Bool) (e : Ending) (w' : World) : Prop := e = .returned (.bool v) ∧ Below w.heap.size w w'
set_option maxRecDepth 100000 in
set_option maxHeartbeats 4000000 in
theorem qis_bare (t wd : List UInt8) (i j : Int) (w : World) :
    Calls Tryz.prog 30 #[.agg #[.int .i64 5, .int .i64 i, .int .i64 j, .string (ba t), .int .i64 0, .bool false], .string (ba wd)] w (IsPost w (decide (t = wd))) := by
  obtain ⟨T, hT⟩ : ∃ T, ba t = T := ⟨_, rfl⟩
  obtain ⟨W, hW⟩ : ∃ W, ba wd = W := ⟨_, rfl⟩
  obtain ⟨f2, f3, f4, f5, f6⟩ := is_facts hT hW
  rw [hT, hW]
  clear hT hW
  by_cases h : t = wd
  · have HV := Lib.hid (show decide (t = wd) = true from decide_eq_true h)
    have g5 := f5.2 h
    rw [HV.out] at f2 f3 f4
    obtain ⟨v, hv⟩ : ∃ v, decide (t = wd) = v := ⟨_, rfl⟩
    have HVV := Lib.hid (hv.symm.trans HV.out)
    rw [hv]
    clear f5 f6 h hv
    subst g5
    go_enter Tryz.func30, Tryz.ntmps30
    go_wp2
    go_ret
    exact ⟨by rw [HVV.out]; rfl, (Below.refl _ _).alloc (Nat.le_refl _) _⟩
  · have HV := Lib.hid (show decide (t = wd) = false from decide_eq_false h)
    have g5 : ¬ T = W := fun e => h (f5.1 e)
    have g6 : ¬ T.toList = W.toList := fun e => h (f6.1 e)
    rw [HV.out] at f2 f3 f4
    obtain ⟨v, hv⟩ : ∃ v, decide (t = wd) = v := ⟨_, rfl⟩
    have HVV := Lib.hid (hv.symm.trans HV.out)
    rw [hv]
    clear f5 f6 h hv
    go_enter Tryz.func30, Tryz.ntmps30
    go_wp2
    go_ret
    exact ⟨by rw [HVV.out]; rfl, (Below.refl _ _).alloc (Nat.le_refl _) _⟩
set_option maxRecDepth 100000 in
set_option maxHeartbeats 4000000 in
theorem qis_other (k i j f : Int) (T W : ByteArray) (b : Bool) (hk : (k == 5) = false) (w : World) :
    Calls Tryz.prog 30 #[.agg #[.int .i64 k, .int .i64 i, .int .i64 j, .string T, .int .i64 f, .bool b], .string W] w (IsPost w false) := by
  go_enter Tryz.func30, Tryz.ntmps30
  go_wp2
  go_ret
  exact ⟨rfl, (Below.refl _ _).alloc (Nat.le_refl _) _⟩
theorem qis_any (x : Pce) (wd : List UInt8) (w : World) : Calls Tryz.prog 30 #[pcV x, .string (ba wd)] w (IsPost w (isBare wd x.tok)) := by
  obtain ⟨i, j, tok⟩ := x
  cases tok with
  | fin => exact qis_other 0 _ _ _ _ _ _ (by decide) w
  | opn => exact qis_other 1 _ _ _ _ _ _ (by decide) w
  | sht => exact qis_other 2 _ _ _ _ _ _ (by decide) w
  | dash => exact qis_other 3 _ _ _ _ _ _ (by decide) w
  | bad => exact qis_other 4 _ _ _ _ _ _ (by decide) w
  | quo t f raw => exact qis_other 4 _ _ _ _ _ _ (by decide) w
  | bare t => exact qis_bare t wd _ _ w
end Go.Proofs.YtomcdhmcjndioaaGreatDoor
end
section
namespace Go.Proofs.YtomcdhmcjndioaaGreatDoor
open Go.RowKit
set_option linter.unusedVariables false

/-- A query handed back, of the own's from B on. -/
def QBack (w : World) (B : Nat) (q : Qry) (e : Ending) (w' : World) : Prop := ∃ r, e = .returned (RawQ.val r) ∧ QOwn w' B r q ∧ RawOk r ∧ Below w.heap.size w w'
theorem joinQ_one (op : Int) (q : Qry) : joinQ op [q] = q := rfl
theorem joinQ_more {op : Int} {l : List Qry} (h : l.length ≠ 1) : joinQ op l = .mk op 0 [] 0 l := by
  unfold joinQ
  split
  · rename_i q; exact absurd rfl h
  · rfl
set_option maxRecDepth 100000 in
set_option maxHeartbeats 4000000 in
theorem qjoined_any (op : Int) (ho : -1000 ≤ op ∧ op ≤ 1000) (v : Value) (l : List Qry) (B : Nat) (w : World) (h : QList w B v l) (hl : l.length ≤ 1000000000) :
    Calls Tryz.prog 31 #[.int .i64 op, v] w (QBack w B (joinQ op l)) := by
  by_cases h1 : l.length = 1
  · obtain ⟨q, rfl⟩ := List.length_eq_one_iff.1 h1
    obtain ⟨ad, c, r, rfl, hc, hq, hk, hlt, c0, c1, c2, c3, c4⟩ := h.only
    have HQ := Lib.hid hq
    have HK := Lib.hid hk
    obtain ⟨o, f, t, n, A, m, cc⟩ := r
    dsimp only at c0 c1 c2 c3 c4
    rw [joinQ_one]
    clear h h1 hl hq hk
    go_enter Tryz.func31, Tryz.ntmps31
    go_wp2
    refine bodyPost_ret (v := .agg #[.int .i64 o, .int .i64 f, .string (ba t), .int .i64 n, .slice A m cc]) (by simp [results, Tryz.results31, go_sem]; try rfl) rfl ?_
    exact ⟨⟨o, f, t, n, (A, m, cc)⟩, rfl, HQ.out.below ((Below.refl _ _).alloc (Nat.le_refl _) _), HK.out, (Below.refl _ _).alloc (Nat.le_refl _) _⟩
  · obtain ⟨A, c, rfl, hq⟩ := h.parent op
    have HQ := Lib.hid hq
    have g1 : ((l.length : Int) == 1) = false := by simp; omega
    have HJ := Lib.hid (joinQ_more (op := op) h1)
    obtain ⟨Q, hQ⟩ : ∃ Q, joinQ op l = Q := ⟨_, rfl⟩
    rw [hQ] at HJ ⊢
    clear h h1 hq hQ
    go_enter Tryz.func31, Tryz.ntmps31
    go_wp2
    refine bodyPost_ret (v := .agg #[.int .i64 op, .int .i64 0, .string ⟨#[]⟩, .int .i64 0, .slice A l.length c]) (by simp [results, Tryz.results31, go_sem]; try rfl) rfl ?_
    refine ⟨⟨op, 0, [], 0, (A, l.length, c)⟩, rfl, ?_, ⟨⟨by dsimp only; omega, by dsimp only; omega⟩, ⟨by dsimp only; omega, by dsimp only; omega⟩, ⟨by dsimp only; omega, by dsimp only; omega⟩⟩, (Below.refl _ _).alloc (Nat.le_refl _) _⟩
    rw [HJ.out]
    exact HQ.out.below ((Below.refl _ _).alloc (Nat.le_refl _) _)
end Go.Proofs.YtomcdhmcjndioaaGreatDoor
end
section
namespace Go.Proofs.YtomcdhmcjndioaaGreatDoor
open Go.RowKit
set_option linter.unusedVariables false

theorem OwnStrs.cell0 {w : World} {B : Nat} {v : Value} {x : List UInt8} (h : OwnStrs w B v [x]) : ∃ ad c, v = .slice (some ad) 1 c ∧ 1 ≤ c ∧ ad.block < w.heap.size ∧ w.cell? ad = some (.string (ba x)) := by
  obtain ⟨A, c, rfl, h1, h2, hs⟩ := h.strs
  obtain ⟨ad, u, rfl, hb, hx, hc⟩ := hs.2.at_ (k := 0) (by simp [sv])
  have e : ad.add 0 = ad := by unfold Addr.add; rw [if_pos rfl]
  rw [e] at hc
  refine ⟨ad, c, rfl, h1, hb, ?_⟩
  rw [hc]
  have : (sv [x])[0]? = some (.string (ba x)) := rfl
  rw [this] at hx
  exact hx.symm
theorem LfPost.weak {w w1 w2 : World} {o : Option Qry} {e : Ending} (hb : Below w.heap.size w w1) (h : LfPost w1 o e w2) : LfPost w o e w2 := by
  obtain ⟨op, fld, t, n, h1, h2, h3, h4⟩ := h
  exact ⟨op, fld, t, n, h1, hb.trans (h2.mono hb.size), h3, h4⟩
set_option maxRecDepth 100000 in
set_option maxHeartbeats 4000000 in
theorem qplain_any (l : List UInt8) (f : Nat) (w : World) (hl : l.length ≤ 1000000) (hf : f ≤ 100) (hT : QTabs w) :
    Calls Tryz.prog 96 #[.string (ba l), .int .i64 (f : Int)] w (LfPost w (plainQ l f)) := by
  have HT := Lib.hid hT
  have HCS := Lib.hid (fun W => cutsuf_any 42 l W (by omega))
  have HTX := Lib.hid (fun W (hW : QTabs W) => qtext_any l f W hl hf hW)
  obtain ⟨fi, hfi⟩ : ∃ x : Int, (f : Int) = x := ⟨_, rfl⟩
  have f0 : 0 ≤ fi := by omega
  have f1 : fi ≤ 100 := by omega
  have HFI := Lib.hid hfi
  simp only [hfi] at HTX
  rw [hfi]
  clear hfi hT
  have HZ0 := Lib.hid (qzAt_new w)
  by_cases hs : l.getLast? = some 42
  · have HTR := Lib.hid (show trimC 42 l = l.dropLast by unfold trimC; rw [if_pos hs])
    have HDE := Lib.hid (show decide (l.getLast? = some 42) = true from decide_eq_true hs)
    have HLI := Lib.hid (fun W (hW : QTabs W) => list_any l.dropLast W hW.fs hW.ks (by rw [List.length_dropLast]; omega))
    have HP1 := Lib.hid (fun x (h : listP l.dropLast = [x]) => plainQ_star (f := f) hs h)
    have HP2 := Lib.hid (fun (h : (listP l.dropLast).length ≠ 1) => plainQ_many (f := f) hs h)
    go_enter Tryz.func96, Tryz.ntmps96
    go_wp2_with fail
    refine (HCS.out _).mono ?_
    rintro e w' ⟨rfl, rfl⟩
    rw [HTR.out, HDE.out]
    go_wp2_with fail
    refine (HLI.out _ (HT.out.below (qz_below w))).mono ?_
    rintro e w1 ⟨v, rfl, hv, hb⟩
    have HB1 := Lib.hid ((qz_below w).trans (hb.mono (by simp)))
    have HZ1 := Lib.hid (HZ0.out.below hb (by simp))
    have z1 : w.heap.size < w1.heap.size := by have := hb.size; simp at this; omega
    clear hb
    by_cases h1 : (listP l.dropLast).length = 1
    · obtain ⟨x, hx⟩ := List.length_eq_one_iff.1 h1
      have HO := Lib.hid (HP1.out x hx)
      rw [hx] at hv
      obtain ⟨ad, c, rfl, hc1, hab, hcell⟩ := hv.cell0
      clear hx h1 hv
      obtain ⟨r0, r1, r2, r3, r4, rf⟩ := HZ1.out.cells
      go_wp2
      refine bodyPost_ret (v := .tuple #[.agg #[.int .i64 4, .int .i64 fi, .string (ba x), .int .i64 0, .slice none 0 0], .bool true]) (by simp [results, Tryz.results96, go_sem, r0, r1, r2, r3, r4]) rfl ?_
      refine lf_some HO.out (by rw [HFI.out]) rfl ?_ (leaf_ok (by omega) (by omega) (by omega))
      repeat (first | (with_reducible exact HB1.out) | refine Below.setCell ?_ (by simp) _)
    · have HO := Lib.hid (HP2.out h1)
      obtain ⟨A, c, rfl, hc1, hc2, hst⟩ := hv.strs
      have g1 : (((listP l.dropLast).length : Int) == 1) = false := by simp; omega
      clear hst hv
      go_wp2_with fail
      refine (HTX.out w1 (HT.out.below HB1.out)).mono ?_
      rintro e w2 ⟨op, fld, t, n, rfl, hb2, hq, hk⟩
      have HB2 := Lib.hid (HB1.out.trans (hb2.mono HB1.out.size))
      have HZ2 := Lib.hid (HZ1.out.below hb2 z1)
      have HQ := Lib.hid hq
      have HK := Lib.hid hk
      clear hb2 hq hk
      obtain ⟨r0, r1, r2, r3, r4, rf⟩ := HZ2.out.cells
      go_wp2
      refine bodyPost_ret (v := .tuple #[.agg #[.int .i64 op, .int .i64 fld, .string (ba t), .int .i64 n, .slice none 0 0], .bool (textQ l f).isSome]) (by simp [results, Tryz.results96, go_sem, r0, r1, r2, r3, r4]) rfl ?_
      refine lf_end (fun q h => HQ.out q (HO.out.symm.trans h)) (by rw [HO.out]) rfl ?_ HK.out
      repeat (first | (with_reducible exact HB2.out) | refine Below.setCell ?_ (by simp) _)
  · have HDE := Lib.hid (show decide (l.getLast? = some 42) = false from decide_eq_false hs)
    have HO := Lib.hid (plainQ_no (f := f) hs)
    go_enter Tryz.func96, Tryz.ntmps96
    go_wp2_with fail
    refine (HCS.out _).mono ?_
    rintro e w' ⟨rfl, rfl⟩
    rw [HDE.out]
    go_wp2_with fail
    refine (HTX.out _ (HT.out.below (qz_below w))).mono ?_
    rintro e w2 ⟨op, fld, t, n, rfl, hb2, hq, hk⟩
    have HB2 := Lib.hid ((qz_below w).trans (hb2.mono (by simp)))
    have HZ2 := Lib.hid (HZ0.out.below hb2 (by simp))
    have HQ := Lib.hid hq
    have HK := Lib.hid hk
    clear hb2 hq hk
    obtain ⟨r0, r1, r2, r3, r4, rf⟩ := HZ2.out.cells
    go_wp2
    refine bodyPost_ret (v := .tuple #[.agg #[.int .i64 op, .int .i64 fld, .string (ba t), .int .i64 n, .slice none 0 0], .bool (textQ l f).isSome]) (by simp [results, Tryz.results96, go_sem, r0, r1, r2, r3, r4]) rfl ?_
    refine lf_end (fun q h => HQ.out q (HO.out.symm.trans h)) (by rw [HO.out]) rfl ?_ HK.out
    repeat (first | (with_reducible exact HB2.out) | refine Below.setCell ?_ (by simp) _)
end Go.Proofs.YtomcdhmcjndioaaGreatDoor
end
