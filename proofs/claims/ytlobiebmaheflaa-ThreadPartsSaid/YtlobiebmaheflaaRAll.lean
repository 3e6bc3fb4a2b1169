/- The reference's Of and All. -/
import Derived.Test.YtlobiebmaheflaaRWalk
import Derived.Test.YtlobiebmaheflaaSame
import Derived.Test.YtlobiebmaheflaaAll
namespace Go.Proofs.Ytlobiebmaheflaa
open Go.RowKit
set_option linter.unusedVariables false

def ROfPost (w : World) (L : List Msg) (id : Int) (e : Ending) (w' : World) : Prop := e = .returned (.tuple #[.int .i64 (ofL L id).1, .bool (ofL L id).2]) ∧ Below w.heap.size w w'
set_option maxRecDepth 100000 in
set_option maxHeartbeats 1000000 in
theorem rof_any (id : Int) (w : World) {G : Nat → Prop} {xh : Nat} {L : List Msg} (h : RefW w G xh L) (hL : L.length ≤ 1000) :
    Calls Try.prog 15 #[.pointer (some ⟨xh, 0, none⟩), .int .i64 id] w (ROfPost w L id) := by
  have H := Lib.hid h
  have HL := Lib.hid hL
  clear h hL
  go_enter Try.func15, Try.ntmps15
  go_wp2_with fail
  refine (rgroup_any id w H.out HL.out).mono ?_
  rintro e w1 ⟨v, rfl, hv, hO⟩
  obtain ⟨A, cap, rfl, hcl, hcm, hI⟩ := hv.ints
  obtain ⟨gl, hgl⟩ : ∃ gl, groupOf L id = gl := ⟨_, rfl⟩
  rw [hgl] at hI hcl ⊢
  have HGL := Lib.hid hgl
  have HO := Lib.hid hO
  clear hgl hO hv
  cases gl with
  | nil =>
    go_wp2
    go_ret2
    have e : ofL L id = (0, false) := by unfold ofL; rw [HGL.out]
    exact ⟨by rw [e]; rfl, HO.out⟩
  | cons x r =>
    obtain ⟨ad, rfl, _, hc⟩ := hI.at_ (k := 0) (by simp)
    have hg : gi (x :: r) 0 = x := rfl
    rw [hg] at hc
    rw [show ad.add 0 = ad by simp [Addr.add]] at hc
    have hl : 0 < (x :: r).length := by simp
    obtain ⟨n, hn⟩ : ∃ n, (x :: r).length = n := ⟨_, rfl⟩
    rw [hn] at hl ⊢
    have hd0 : ((n : Int) == 0) = false := by simp; omega
    clear hg hI hcl hn
    go_wp2
    go_ret2
    have e : ofL L id = (x, true) := by unfold ofL; rw [HGL.out]
    exact ⟨by rw [e]; rfl, HO.out⟩

/-- What the loop of All has told. -/
noncomputable def toldAll (L : List Msg) (j : Nat) : List (List Int) := ((L.take j).filter fun x => (groupOf L x.id).head? == some x.id).map fun x => groupOf L x.id
theorem toldAll_zero (L : List Msg) : toldAll L 0 = [] := by simp [toldAll]
theorem toldAll_yes {L : List Msg} {j : Nat} (hj : j < L.length) (h : (groupOf L L[j].id).head? = some L[j].id) : toldAll L (j + 1) = toldAll L j ++ [groupOf L L[j].id] := by
  unfold toldAll
  rw [List.take_succ_eq_append_getElem hj, List.filter_append, List.map_append]
  simp [h]
theorem toldAll_no {L : List Msg} {j : Nat} (hj : j < L.length) (h : (groupOf L L[j].id).head? ≠ some L[j].id) : toldAll L (j + 1) = toldAll L j := by
  unfold toldAll
  rw [List.take_succ_eq_append_getElem hj, List.filter_append, List.map_append]
  simp [h]
theorem toldAll_all (L : List Msg) : toldAll L L.length = allOf L := by unfold toldAll allOf; rw [List.take_length]
theorem toldAll_le (L : List Msg) (j : Nat) : (toldAll L j).length ≤ L.length := by
  unfold toldAll
  rw [List.length_map]
  exact Nat.le_trans (List.length_filter_le _ _) (by rw [List.length_take]; omega)

set_option maxRecDepth 100000 in
set_option maxHeartbeats 2000000 in
theorem rall_any (w : World) {G : Nat → Prop} {xh : Nat} {L : List Msg} (h : RefW w G xh L) (hL : L.length ≤ 1000) :
    Calls Try.prog 20 #[.pointer (some ⟨xh, 0, none⟩)] w (AllPost w L) := by
  obtain ⟨A, cap, c0, -, q1, q2, -, hA⟩ := h.at_
  obtain ⟨n, hn⟩ : ∃ n, L.length = n := ⟨_, rfl⟩
  rw [hn] at c0 q1 hL
  have HR := Lib.hid h
  have HN := Lib.hid hn
  have HA := Lib.hid hA
  clear h hn hA
  go_enter Try.func20, Try.ntmps20
  go_wp2
  go_loopw [3, 4] (fun ov i wr => ∃ j : Nat, j ≤ n ∧ i = .int .i64 (j : Int) ∧ Hid (OwnRows wr w.heap.size ov (toldAll L j)) ∧ Hid (Below w.heap.size w wr)) (fun _ i _ => n - (intOf i).toNat)
  case atStart => exact ⟨0, Nat.zero_le _, rfl, by show OwnRows _ _ _ _; rw [toldAll_zero]; exact OwnRows.nil_ _ _, Below.refl _ _⟩
  case round =>
    obtain ⟨j, hj, rfl, hO, hB⟩ := hrel
    have cx := (hB.out.cell (p := ⟨xh, 0, none⟩) (heap_lt HR.out.row.choose_spec.choose_spec.1)).trans c0
    by_cases hjn : j < n
    · have hj2 : (j : Int) < n := by omega
      have hjl : j < L.length := by rw [HN.out]; exact hjn
      obtain ⟨g, vj, rfl, -, hgl, j0, j1, j2, jI, hjI, -⟩ := HA.out j hjl
      obtain ⟨y, hy⟩ : ∃ y, L[j].id = y := ⟨_, rfl⟩
      rw [hy] at j0 hjI
      have k0 := (hB.out.cell (p := ⟨g, j * 3, none⟩) hgl).trans j0
      have HY := Lib.hid hy
      have HJ0 := Lib.hid j0
      have HGL := Lib.hid hgl
      clear hy j1 j2 jI hgl j0
      have HRW := Lib.hid (HR.out.below hB.out)
      go_wp2_with fail
      refine (rgroup_any y wr HRW.out (by rw [HN.out]; exact hL)).mono ?_
      rintro e w1 ⟨v, rfl, hv, hb⟩
      obtain ⟨VA, vc, rfl, hcl, hcm, hI⟩ := hv.ints
      have hself : y ∈ groupOf L y := by have := groupOf_self (List.getElem_mem hjl); rwa [HY.out] at this
      obtain ⟨gl, hg⟩ : ∃ gl, groupOf L y = gl := ⟨_, rfl⟩
      rw [hg] at hI hcl hv hself ⊢
      have HG := Lib.hid hg
      cases gl with
      | nil => cases hself
      | cons x r =>
        obtain ⟨ad, rfl, _, hc⟩ := hI.at_ (k := 0) (by simp)
        have hgi : gi (x :: r) 0 = x := rfl
        rw [hgi] at hc
        rw [show ad.add 0 = ad by simp [Addr.add]] at hc
        obtain ⟨l, hl⟩ : ∃ l, (x :: r).length = l := ⟨_, rfl⟩
        have hl0 : 0 < l := by rw [← hl]; simp
        have hl1 : (0 : Int) < l := by omega
        rw [hl] at hv ⊢
        have HV := Lib.hid hv
        have HBB := Lib.hid hb
        have cx1 := (hb.cell (p := ⟨xh, 0, none⟩) (by have := heap_lt HRW.out.row.choose_spec.choose_spec.1; exact this)).trans cx
        have k1 := (hb.cell (p := ⟨g, j * 3, none⟩) (by have := HGL.out; have := hB.out.size; show g < _; omega)).trans k0
        have hlen : Hid (l = (x :: r).length) := hl.symm
        clear hg hself hI hcl hgi hl hv hb k0 cx
        by_cases he : x = y
        · have hd : (x == y) = true := by simp [he]
          have HE := Lib.hid he
          clear he
          go_wp2
          go_quiet (fail)
          clear hd
          obtain ⟨w2, hw2⟩ : ∃ w2, w2 = w1.drewN nq := ⟨_, rfl⟩
          have hB2 : Below wr.heap.size wr w2 := by rw [hw2]; exact ⟨HBB.out.os, HBB.out.tape, HBB.out.output, HBB.out.size, HBB.out.block⟩
          have hV2 : OwnInts w2 wr.heap.size (.slice (some ad) l vc) (x :: r) := by rw [hw2]; exact HV.out
          rw [← hw2]
          obtain ⟨vs, hvo, hvl, hvs⟩ := hO.out
          obtain ⟨i0, hi, hz0, hz1, hz2⟩ := info_parts rows_info
          have hvo2 : w2.ownsRow w.heap.size 40 1 u3 vs.length vs := ownsRow_block hvo fun b e => hB2.block b (hvo.lt b e).2
          have hsz := hB.out.size
          have hsz2 := hB2.size
          have hnum : vs.length ≤ 1000 := by rw [hvl]; have := toldAll_le L j; rw [HN.out] at this; omega
          have HVO := Lib.hid hvo
          have HVL := Lib.hid hvl
          have HVS := Lib.hid hvs
          have HVO2 := Lib.hid hvo2
          have HB2 := Lib.hid hB2
          have HV2 := Lib.hid hV2
          have HNEXT := Lib.hid (toldAll_yes hjl (by rw [HY.out, HG.out, HE.out]; rfl))
          clear hvo hvl hvs hvo2 hB2 hV2 hw2 hc cx1 k1
          go_wp2_with (at_builtin; refine wpList_append_own_at _ rfl _ _ _ rfl w.heap.size 40 i0 (.slice none 0 0) 1 24 Try.underlying42 hi hz0 hz1 hz2 rfl (by omega) u3 vs.length vs rfl (by exact HVO2.out.alloc _) ⟨w2.heap.size, 0, none⟩ 1 1 [.slice (some ad) l vc] rfl rfl (cell_one_new _ _ _) (by intro u hu; simp at hu; subst hu; rfl) (by simp only [maxLen]; omega) (by omega) (by simp; omega) ?_; intro v' w3 hown3 hg3 _ hat3; have HO3 := Lib.hid hown3; have HG3 := Lib.hid hg3; have HAT3 := Lib.hid hat3; clear hown3 hg3 hat3)
          go_roundw
          case rel =>
            have hrow := rows_push HVO.out HVL.out HVS.out HB2.out HV2.out hsz HG3.out HO3.out (by rcases HAT3.out with h | h; exact .inl h; exact .inr (by rw [h]; simp))
            refine ⟨j + 1, by omega, by go_num, ?_, ?_⟩
            · show OwnRows _ _ _ _
              rw [HNEXT.out, HY.out, HG.out]; exact hrow
            · have h1 : Below w.heap.size w w2 := hB.out.trans (HB2.out.mono hsz)
              exact (h1.alloc h1.size (.cells #[.slice (some ad) l vc] 40)).grown HG3.out (by simp; omega) (fun k e => (HVO2.out.lt k e).1)
          case measure => simp [intOf] <;> omega
        · have hd : (x == y) = false := by simp [he]
          have HE := Lib.hid he
          clear he
          go_wp2
          go_quiet (fail)
          clear hd
          go_wp2
          go_roundw
          case rel =>
            refine ⟨j + 1, by omega, by go_num, ?_, ?_⟩
            · show OwnRows _ _ _ _
              rw [toldAll_no hjl (by rw [HY.out, HG.out]; intro e; injection e with e; exact HE.out e)]
              exact hO.out.off fun b _ hb => HBB.out.block b hb
            · have h1 := hB.out.trans (HBB.out.mono hB.out.size)
              exact ⟨h1.os, h1.tape, h1.output, h1.size, h1.block⟩
          case measure => simp [intOf] <;> omega
    · obtain rfl : j = n := by omega
      go_wp2
      go_ret
      refine ⟨_, rfl, ?_, hB.out⟩
      rw [← toldAll_all, HN.out]
      exact hO.out
end Go.Proofs.Ytlobiebmaheflaa
