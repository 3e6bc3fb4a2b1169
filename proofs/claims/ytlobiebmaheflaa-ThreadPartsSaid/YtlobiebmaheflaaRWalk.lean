/- The reference's Group: the walk. -/
import Derived.Test.YtlobiebmaheflaaRGroup
import Derived.StillTailTactics
namespace Go.Proofs.Ytlobiebmaheflaa
open Go.RowKit
set_option linter.unusedVariables false

theorem bool_info : (Try.prog.info? 4).map (fun i => (i.zero, i.size, i.bytes)) = some (some (.bool false), 1, 1) := by kernel_rfl
def fals (n : Nat) : Array Value := madeCells #[.bool false] n
theorem fals_at {n i : Nat} (h : i < n) : (fals n)[i]? = some (.bool false) := by simp [fals, madeCells, h, Nat.mod_one]
theorem make_bools {o : Nat} (ho : o < 1099511627776) (W : World) : (Instr.makeSlice 66 (.int .i64 (o : Int)) (.int .i64 (o : Int))).run Try.prog W = .ok (.slice (some ⟨W.heap.size, 0, none⟩) o o) (W.alloc (.cells (fals o) 4)) := by
  obtain ⟨i0, hi, hz0, hz1, hz2⟩ := info_parts bool_info
  have := run_make (P := Try.prog) W 66 4 i0 (.bool false) Try.underlying66 hi hz0 .i64 .i64 (o : Int) (o : Int) (by omega) (by omega) (by rw [hz2]; omega) (by omega)
  rw [this, hz1, Nat.mul_one]
  rfl

theorem ownsRow_one' {w : World} {b B : Nat} {v : Value} {t : TypeId} (hB : B ≤ b) (h : w.heap[b]? = some (.cells #[v] t (0, 0))) : w.ownsRow B t 1 (.slice (some ⟨b, 0, none⟩) 1 1) 1 [v] :=
  ⟨rfl, .inr ⟨b, 1, _, rfl, hB, h, Nat.le_refl _, by simp only [maxLen]; omega, rfl, rfl⟩⟩

theorem Search.few {L : List Msg} {k a : Nat} {rows : List Nat} (h : Search L k rows a) : rows.length ≤ L.length := by
  have := nodup_le (ll := List.range L.length) h.nodup fun x hx => List.mem_range.2 (h.lt x hx)
  simpa using this
theorem told_le (L : List Msg) (id : Int) (j : Nat) : (told L id j).length ≤ L.length := by
  classical
  unfold told
  rw [List.length_map]
  exact Nat.le_trans (List.length_filter_le _ _) (by rw [List.length_take]; omega)

def RGroupPost (w : World) (L : List Msg) (id : Int) (e : Ending) (w' : World) : Prop := ∃ v, e = .returned v ∧ OwnInts w' w.heap.size v (groupOf L id) ∧ Below w.heap.size w w'
set_option maxRecDepth 100000 in
set_option maxHeartbeats 4000000 in
theorem rgroup_any (id : Int) (w : World) {G : Nat → Prop} {xh : Nat} {L : List Msg} (h : RefW w G xh L) (hL : L.length ≤ 1000) :
    Calls Try.prog 18 #[.pointer (some ⟨xh, 0, none⟩), .int .i64 id] w (RGroupPost w L id) := by
  have HR := Lib.hid h
  have HL := Lib.hid hL
  clear h hL
  go_enter Try.func18, Try.ntmps18
  go_wp2_with fail
  refine (place_any id w HR.out (by have := HL.out; omega)).mono ?_
  rintro e w1 ⟨r, rfl, hr, hb⟩
  have HB := Lib.hid hb
  have H1 := Lib.hid (HR.out.below hb)
  rcases hr with ⟨rfl, hno⟩ | ⟨k, hk, rfl, hid⟩
  · have HNO := Lib.hid hno
    clear hno hb
    go_wp2
    go_ret
    refine ⟨_, rfl, ?_, HB.out⟩
    rw [groupOf_none HNO.out]
    exact OwnInts.nil_ _ _
  · obtain ⟨A, cap, c0, -, q1, q2, -, hA⟩ := H1.out.at_
    obtain ⟨n, hn⟩ : ∃ n, L.length = n := ⟨_, rfl⟩
    rw [hn] at c0 q1
    have hkn : k < n := by omega
    have hn1000 : n ≤ 1000 := by have := HL.out; omega
    have hk1 : (k : Int) < n := by omega
    have HN := Lib.hid hn
    have HA := Lib.hid hA
    have HID := Lib.hid hid
    clear hn hA hid hb
    have hmk := make_bools (o := n) (by omega) w1
    have hd : decide ((k : Int) < 0) = false := by simp
    go_upto_region 5 with (fail)
    obtain ⟨ib, hib⟩ : ∃ ib, ib = w1.heap.size := ⟨_, rfl⟩
    obtain ⟨W, hW⟩ : ∃ W, W = w1.alloc (.cells (fals n) 4) := ⟨_, rfl⟩
    rw [← hW, ← hib]
    have hM : Marked W ib n [] := ⟨fals n, by rw [hW, hib]; exact (MapKept.heap_alloc w1 _).1, by simp [fals, madeCells], fun i hi => by rw [fals_at hi]; simp⟩
    have hbW : Below w1.heap.size w1 W := by rw [hW]; exact (Below.refl _ _).alloc (Nat.le_refl _) _
    obtain ⟨m0, m1⟩ := hM.cell hkn
    have HM := Lib.hid hM
    have HBW := Lib.hid hbW
    have HW := Lib.hid hW
    have HIB := Lib.hid hib
    clear hM hbW hW hib hmk
    go_wp2
    go_loopw [7, 8] (fun rv at_ wr => ∃ (rows : List Nat) (a : Nat), at_ = .int .i64 (a : Int) ∧ Hid (Marked wr ib n rows) ∧ Hid (OwnInts wr (ib + 1) rv (rows.map fun (i : Nat) => (i : Int))) ∧ Hid (Search L k rows a) ∧ Hid (Below w1.heap.size w1 wr)) (fun _ at_ _ => n - (intOf at_).toNat)
    case atStart =>
      refine ⟨[k], 0, rfl, ?_, ?_, Search.begin hk, ?_⟩
      · exact (HM.out.set hkn).keep ((MapKept.heap_alloc _ _).2 ib (by have := heap_lt HM.out.choose_spec.1; simp [World.setCell]; exact this))
      · have h9 := (MapKept.heap_alloc (W.setCell ⟨ib, k, none⟩ (.bool true)) (.cells #[.int .i64 (k : Int)] 3)).1
        rw [show (W.setCell ⟨ib, k, none⟩ (.bool true)).heap.size = W.heap.size by simp [World.setCell]] at h9
        refine ⟨ownsRow_one' ?_ h9, fun x hx => by simp at hx; omega⟩
        exact heap_lt HM.out.choose_spec.1
      · exact (HBW.out.setCell (p := ⟨ib, k, none⟩) (by rw [HIB.out]; exact Nat.le_refl _) _).alloc (by have := HBW.out.size; simpa [World.setCell] using this) _
    case round =>
      obtain ⟨rows, a, rfl, hM, hO, hS, hB⟩ := hrel
      obtain ⟨RA, rc, rfl, hr1, hr2, hI⟩ := hO.out.ints
      obtain ⟨rl, hrl⟩ : ∃ l, (rows.map fun (i : Nat) => (i : Int)).length = l := ⟨_, rfl⟩
      rw [hrl] at hO hr1 hI ⊢
      have hrl2 : rows.length = rl := by simpa using hrl
      have hrln : rl ≤ n := by rw [← hrl2, ← HN.out]; exact hS.out.few
      by_cases hlt : a < rl
      · have ha2 : (a : Int) < rl := by omega
        have HRL := Lib.hid hrl2
        clear hI hrl hrl2
        obtain ⟨r, hr⟩ : ∃ r, rows[a]? = some r := ⟨rows[a]'(by have := HRL.out; omega), List.getElem?_eq_getElem (by have := HRL.out; omega)⟩
        have HRR := Lib.hid hr
        clear hr
        go_wp2
        go_loopw [7, 9] (fun rv i wr' => ∃ (rows' : List Nat) (j : Nat), j ≤ n ∧ i = .int .i64 (j : Int) ∧ Hid (Marked wr' ib n rows') ∧ Hid (OwnInts wr' (ib + 1) rv (rows'.map fun (i : Nat) => (i : Int))) ∧ Hid (Search L k rows' a) ∧ Hid (rows'[a]? = some r) ∧ Hid (∀ t (ht : t < L.length) (hr : r < L.length), t < j → Hangs L[r] L[t] → t ∈ rows') ∧ Hid (Below w1.heap.size w1 wr')) (fun _ i _ => n - (intOf i).toNat)
        case atStart => exact ⟨rows, 0, Nat.zero_le _, rfl, hM, hO, hS, HRR, fun t _ _ ht => absurd ht (by omega), hB⟩
        case round =>
          obtain ⟨rows', j, hj, rfl, hM', hO', hS', hr', hT', hB'⟩ := hrel
          obtain ⟨RA', rc', rfl, hr1', hr2', hI'⟩ := hO'.out.ints
          obtain ⟨rl', hrl'⟩ : ∃ l, (rows'.map fun (i : Nat) => (i : Int)).length = l := ⟨_, rfl⟩
          rw [hrl'] at hO' hr1' hI' ⊢
          have hrl2' : rows'.length = rl' := by simpa using hrl'
          have HRL' := Lib.hid hrl2'
          have cx := (hB'.out.cell (p := ⟨xh, 0, none⟩) (heap_lt H1.out.row.choose_spec.choose_spec.1)).trans c0
          clear hrl' hrl2'
          by_cases hjn : j < n
          · obtain ⟨mj, -⟩ := hM'.out.cell hjn
            have hj2 : (j : Int) < n := by omega
            by_cases hin : j ∈ rows'
            · have HIN := Lib.hid hin
              rw [decide_eq_true hin] at mj
              clear hin
              go_wp2
              go_quiet (fail)
              go_wp2
              go_roundw
              case rel =>
                refine ⟨rows', j + 1, by omega, by go_num, hM', hO', hS', hr', fun t ht hr2 htj hh => ?_, ⟨hB'.out.os, hB'.out.tape, hB'.out.output, hB'.out.size, hB'.out.block⟩⟩
                by_cases e : t = j
                · subst e; exact HIN.out
                · exact hT'.out t ht hr2 (by omega) hh
              case measure => simp [intOf] <;> omega
            · have HNIN := Lib.hid hin
              rw [decide_eq_false hin] at mj
              clear hin
              have hjl : j < L.length := by rw [HN.out]; exact hjn
              have hrl : r < L.length := hS'.out.lt r (List.mem_of_getElem? hr'.out)
              have har : a < rl' := by rw [← HRL'.out]; exact (List.getElem?_eq_some_iff.1 hr'.out).1
              obtain ⟨g, vr, rfl, -, hgl, r0, r1, r2, rI, -, -⟩ := HA.out r hrl
              obtain ⟨g2, vj, e2, -, -, j0, j1, j2, jI, -, -⟩ := HA.out j hjl
              obtain rfl : g = g2 := by simpa using e2
              obtain ⟨rd, rfl, hrd, hra⟩ := hI'.at_ har
              have hgi : gi (rows'.map fun (i : Nat) => (i : Int)) a = (r : Int) := by
                rw [gi_get (by rw [List.length_map, HRL'.out]; exact har)]
                have := hr'.out
                rw [List.getElem?_eq_getElem (by rw [HRL'.out]; exact har)] at this
                injection this with this
                simp [this]
              rw [hgi] at hra
              obtain ⟨mr, hmr⟩ : ∃ m, L[r] = m := ⟨_, rfl⟩
              obtain ⟨mj', hmj⟩ : ∃ m, L[j] = m := ⟨_, rfl⟩
              rw [hmr] at r0 r2 rI
              rw [hmj] at j0 j2 jI
              have r0 := (hB'.out.cell (p := ⟨g, r * 3, none⟩) hgl).trans r0
              have r1 := (hB'.out.cell (p := ⟨g, r * 3 + 1, none⟩) hgl).trans r1
              have r2 := (hB'.out.cell (p := ⟨g, r * 3 + 2, none⟩) hgl).trans r2
              have j0 := (hB'.out.cell (p := ⟨g, j * 3, none⟩) hgl).trans j0
              have j1 := (hB'.out.cell (p := ⟨g, j * 3 + 1, none⟩) hgl).trans j1
              have j2 := (hB'.out.cell (p := ⟨g, j * 3 + 2, none⟩) hgl).trans j2
              have HRI : Hid (IdRow wr G vr mr.ids) := rI.keep (fun b hg hl => ⟨hB'.out.block b hl, hg⟩) hB'.out.size
              have HJI : Hid (IdRow wr G vj mj'.ids) := jI.keep (fun b hg hl => ⟨hB'.out.block b hl, hg⟩) hB'.out.size
              have hrn : r < n := by rw [← HN.out]; exact hrl
              have hr2 : (r : Int) < n := by omega
              have ha3 : (a : Int) < rl' := by omega
              have HMR := Lib.hid hmr
              have HMJ := Lib.hid hmj
              have HRD := Lib.hid hrd
              have HGL := Lib.hid hgl
              clear hmr hmj rI jI hgi hrd hgl hI' e2
              go_wp2
              go_cut [67] (fun t wc => ∃ b : Bool, t = .bool b ∧ Hid (b = true ↔ Hangs mr mj') ∧ Hid (Below wr.heap.size wr wc))
              case first =>
                refine wp_region_still_tail 23 (by kernel_rfl) (by kernel_rfl) ?_
                simp only [List.take_succ_cons, List.take_zero, List.drop_succ_cons, List.drop_zero]
                repeat still_step
                refine wpStill_nil ?_
                go_wp2_with fail
                refine (hang_any mr mj' vr vj wr.drew (G := G) HRI.out HJI.out).mono ?_
                rintro e w2 ⟨b, rfl, hbb, hb2⟩
                have HBB := Lib.hid hbb
                have HB2 := Lib.hid hb2
                clear hbb hb2
                go_wp2
                go_meet
                case rel => exact ⟨b, rfl, HBB.out, ⟨HB2.out.os, HB2.out.tape, HB2.out.output, HB2.out.size, HB2.out.block⟩⟩
              case rest =>
                obtain ⟨b, rfl, HBB, HB2⟩ := hcut
                have hkeep : ∀ b, b < wr.heap.size → wc.heap[b]? = wr.heap[b]? := fun b hb => HB2.out.block b hb
                have HKEEP := Lib.hid hkeep
                have HBC := Lib.hid (hB'.out.trans (HB2.out.mono hB'.out.size))
                have HMC := Lib.hid (hM'.out.keep (hkeep ib (heap_lt hM'.out.choose_spec.1)))
                have HOC := Lib.hid (hO'.out.block fun b e => hkeep b (hO'.out.1.lt b e).2)
                clear hkeep r0 r1 r2 j0 j1 j2 hra cx mj
                have cx := (HBC.out.cell (p := ⟨xh, 0, none⟩) (heap_lt H1.out.row.choose_spec.choose_spec.1)).trans c0
                cases b with
                | false =>
                  go_wp2
                  go_roundw
                  case rel =>
                    refine ⟨rows', j + 1, by omega, by go_num, HMC, HOC, hS', hr', fun t ht hr2 htj hh => ?_, HBC.out⟩
                    by_cases e : t = j
                    · subst e
                      rw [HMR.out, HMJ.out] at hh
                      exact Bool.noConfusion (HBB.out.2 hh)
                    · exact hT'.out t ht hr2 (by omega) hh
                  case measure => simp [intOf] <;> omega
                | true =>
                  obtain ⟨s0, s1⟩ := HMC.out.cell hjn
                  rw [decide_eq_false HNIN.out] at s0
                  obtain ⟨X, hX⟩ : ∃ X, X = wc.setCell ⟨ib, j, none⟩ (.bool true) := ⟨_, rfl⟩
                  have hXM : Marked X ib n (rows' ++ [j]) := by rw [hX]; exact HMC.out.set hjn
                  have hXO : OwnInts X (ib + 1) (.slice (some rd) rl' rc') (rows'.map fun (i : Nat) => (i : Int)) := by
                    rw [hX]; exact HOC.out.block fun b e => heap_setCell_other _ _ _ _ (by have := HOC.out.base b e; intro e2; have e3 : b = ib := e2; omega)
                  have hXB : Below w1.heap.size w1 X := by rw [hX]; exact HBC.out.setCell (p := ⟨ib, j, none⟩) (by rw [HIB.out]; exact Nat.le_refl _) _
                  have HX := Lib.hid hX
                  have HXM := Lib.hid hXM
                  have HXO := Lib.hid hXO
                  have HXB := Lib.hid hXB
                  have HLN := Lib.hid (show (rows'.map fun (i : Nat) => (i : Int)).length < 1099511627776 by
                    rw [List.length_map]; have := hS'.out.few; rw [HN.out] at this; omega)
                  have HXS := Lib.hid (show X.heap.size = wc.heap.size by rw [hX]; simp [World.setCell])
                  clear hX
                  have hXs : ib + 1 ≤ X.heap.size := heap_lt hXM.choose_spec.1
                  clear hXM hXO hXB
                  have hj3 : (-9223372036854775808 : Int) ≤ (j : Int) ∧ (j : Int) ≤ 9223372036854775807 := by omega
                  go_wp2_with (rw [← HX.out]; at_builtin; go_must (refine wpList_push HXO.out hXs hj3 HLN.out rfl (.tmp 71) (.tmp 73) 40 1 rfl Try.underlying40 rfl (by rw [HXS.out]; rfl) ?_); intro v' w3 hown1 hg1 hat1; have H1' := Lib.hid hown1; have H2' := Lib.hid hg1; clear hown1 hg1 hat1)
                  go_roundw
                  case rel =>
                    have hra2 : a < rows'.length := by rw [HRL'.out]; exact har
                    have hra3 : rows'[a] = r := by have h8 := hr'.out; rw [List.getElem?_eq_getElem hra2] at h8; injection h8
                    refine ⟨rows' ++ [j], j + 1, by omega, by go_num, ?_, ?_, ?_, ?_, fun t ht hr2 htj hh => ?_, ?_⟩
                    · exact HXM.out.keep (H2'.out.block ib (by omega) (fun e => by have := HXO.out.base ib e.symm; omega))
                    · show OwnInts _ _ _ _
                      rw [List.map_append]; exact H1'.out
                    · refine hS'.out.push hjl HNIN.out hra2 (by rw [hra3]; exact hrl) ?_
                      have h7 : L[rows'[a]]'(by rw [hra3]; exact hrl) = mr := by simp only [hra3]; exact HMR.out
                      rw [h7, HMJ.out]
                      exact HBB.out.1 rfl
                    · show (rows' ++ [j])[a]? = some r
                      rw [List.getElem?_append_left hra2]; exact hr'.out
                    · by_cases e : t = j
                      · subst e; simp
                      · exact List.mem_append_left _ (hT'.out t ht hr2 (by omega) hh)
                    · exact HXB.out.grown H2'.out HXB.out.size (fun k e => by have := HXO.out.base k e; rw [HIB.out] at this; omega)
                  case measure => simp [intOf] <;> omega
          · obtain rfl : j = n := by omega
            go_wp2
            go_roundw
            case rel =>
              have hra2 : a < rows'.length := (List.getElem?_eq_some_iff.1 hr'.out).1
              have hra3 : rows'[a] = r := (List.getElem?_eq_some_iff.1 hr'.out).2
              have hrl : r < L.length := hS'.out.lt r (List.mem_of_getElem? hr'.out)
              refine ⟨rows', a + 1, by go_num, hM', hO', hS'.out.next hra2 (by rw [hra3]; exact hrl) fun i hi hh => ?_, hB'.out⟩
              refine hT'.out i hi hrl (by rw [← HN.out]; exact hi) ?_
              have h7 : L[rows'[a]]'(by rw [hra3]; exact hrl) = L[r] := by simp only [hra3]
              rw [← h7]; exact hh
            case measure => simp [intOf] <;> omega
      · have hale : a ≤ rl := by rw [← hrl2]; exact hS.out.le
        obtain rfl : a = rl := by omega
        have HALL := Lib.hid (show ∀ i (hi : i < L.length), i ∈ rows ↔ Memb L id L[i] by
          have h8 := hS.out
          rw [← hrl2] at h8
          have h9 := h8.all H1.out.asc hk
          rw [HID.out] at h9
          exact h9)
        have HRL := Lib.hid hrl2
        clear hrl hrl2 hI
        go_wp2
        go_loopw [10, 11] (fun ov i wr' => ∃ j : Nat, j ≤ n ∧ i = .int .i64 (j : Int) ∧ Hid (Marked wr' ib n rows) ∧ Hid (OwnInts wr' (ib + 1) ov (told L id j)) ∧ Hid (Below w1.heap.size w1 wr')) (fun _ i _ => n - (intOf i).toNat)
        case atStart => exact ⟨0, Nat.zero_le _, rfl, hM, by show OwnInts _ _ _ _; rw [told_zero]; exact OwnInts.nil_ _ _, hB⟩
        case round =>
          obtain ⟨j, hj, rfl, hM', hO', hB'⟩ := hrel
          have cx := (hB'.out.cell (p := ⟨xh, 0, none⟩) (heap_lt H1.out.row.choose_spec.choose_spec.1)).trans c0
          by_cases hjn : j < n
          · obtain ⟨mj, -⟩ := hM'.out.cell hjn
            have hj2 : (j : Int) < n := by omega
            have hjl : j < L.length := by rw [HN.out]; exact hjn
            by_cases hin : j ∈ rows
            · rw [decide_eq_true hin] at mj
              have HNEXT := Lib.hid (told_yes (id := id) hjl ((HALL.out j hjl).1 hin))
              clear hin
              obtain ⟨g, vj, rfl, -, hgl, j0, j1, j2, jI, hjI, -⟩ := HA.out j hjl
              obtain ⟨y, hy⟩ : ∃ y, L[j].id = y := ⟨_, rfl⟩
              rw [hy] at j0 hjI
              have j0 := (hB'.out.cell (p := ⟨g, j * 3, none⟩) hgl).trans j0
              have HY := Lib.hid hy
              clear hy j1 j2 jI hgl
              obtain ⟨OA, oc, hov, -, -, -⟩ := hO'.out.ints
              subst hov
              have HLN := Lib.hid (show (told L id j).length < 1099511627776 by have := told_le L id j; rw [HN.out] at this; omega)
              have hXs : ib + 1 ≤ wr.heap.size := heap_lt hM'.out.choose_spec.1
              obtain ⟨ol, hol⟩ : ∃ l, (told L id j).length = l := ⟨_, rfl⟩
              have HO2 := hO'
              rw [hol] at HO2 ⊢
              have HOL := Lib.hid hol
              clear hol
              go_wp2_with (at_builtin; go_must (refine wpList_push HO2.out hXs hjI HLN.out rfl (.tmp 88) (.tmp 97) 40 1 rfl Try.underlying40 rfl rfl ?_); intro v' w3 hown1 hg1 hat1; have H1' := Lib.hid hown1; have H2' := Lib.hid hg1; clear hown1 hg1 hat1)
              go_roundw
              case rel =>
                refine ⟨j + 1, by omega, by go_num, ?_, ?_, ?_⟩
                · exact hM'.out.keep (H2'.out.block ib (by omega) (fun e => by have := HO2.out.base ib e.symm; omega))
                · show OwnInts _ _ _ _
                  rw [HNEXT.out, HY.out]; exact H1'.out
                · exact hB'.out.grown H2'.out hB'.out.size (fun k e => by have := HO2.out.base k e; rw [HIB.out] at this; omega)
              case measure => simp [intOf] <;> omega
            · rw [decide_eq_false hin] at mj
              have HNEXT := Lib.hid (told_no (id := id) hjl (fun h => hin ((HALL.out j hjl).2 h)))
              clear hin
              go_wp2
              go_roundw
              case rel => exact ⟨j + 1, by omega, by go_num, hM', by show OwnInts _ _ _ _; rw [HNEXT.out]; exact hO'.out, hB'⟩
              case measure => simp [intOf] <;> omega
          · obtain rfl : j = n := by omega
            have HFIN := Lib.hid (show told L id j = groupOf L id by rw [← HN.out, told_all])
            go_wp2
            go_ret
            refine ⟨_, rfl, ?_, HB.out.trans (hB'.out.mono HB.out.size)⟩
            rw [← HFIN.out]
            exact hO'.out.more (by have := HB.out.size; rw [HIB.out]; omega)
end Go.Proofs.Ytlobiebmaheflaa
