/- Contract of numbers: the sorted numbers of a row of nodes. -/
import Derived.Test.YtlobiebmaheflaaShelf
import Derived.Test.YtlobiebmaheflaaOwn
namespace Go.Proofs.Ytlobiebmaheflaa
open Go.RowKit
set_option linter.unusedVariables false

/-- A row behind a sort: the cells hold d; nothing else has turned. -/
theorem putRow_row {α : Type} [Inhabited α] (enc : α → Value) (w : World) (g : Nat) (d : Array α) {cur : Array Value} {e : TypeId} (hg : w.heap[g]? = some (.cells cur e (0, 0))) (hd : d.size ≤ cur.size) :
    ∃ cur', (Sort.putRow enc w g 0 d).heap[g]? = some (.cells cur' e (0, 0)) ∧ cur'.size = cur.size ∧ cur'.toList.take d.size = d.toList.map enc := by
  refine ⟨Sort.putCells enc 0 d cur, ?_, by simp [Sort.putCells], ?_⟩
  · show (w.heap.modify g _)[g]? = _
    rw [Array.getElem?_modify, if_pos rfl, hg]; rfl
  · apply List.ext_getElem
    · simp [Sort.putCells]; omega
    · intro i h1 h2
      have hi : i < d.size := by simpa using h2
      simp only [List.getElem_take, Array.getElem_toList, List.getElem_map]
      simp [Sort.putCells, hi]
theorem putRow_far {α : Type} [Inhabited α] (enc : α → Value) (w : World) (g off : Nat) (d : Array α) {k : Nat} (hk : k ≠ g) : (Sort.putRow enc w g off d).heap[k]? = w.heap[k]? := by
  show (w.heap.modify g _)[k]? = _
  rw [Array.getElem?_modify, if_neg (fun e => hk e.symm)]
theorem grow_old (w : World) (os : Array Obj) {k : Nat} (hk : k < w.heap.size) : (Sort.grow w os).heap[k]? = w.heap[k]? := by
  show (w.heap ++ os)[k]? = _
  rw [Array.getElem?_append_left hk]

def sortI (l : List Int) : List Int := l.mergeSort fun x y => decide (x ≤ y)
theorem mem_sortI {l : List Int} {x : Int} : x ∈ sortI l ↔ x ∈ l := List.mem_mergeSort
theorem sortI_asc {l : List Int} (h : l.Nodup) : (sortI l).Pairwise (· < ·) := by
  have h1 : (sortI l).Pairwise (fun x y => decide (x ≤ y) = true) := List.pairwise_mergeSort (fun a b c h1 h2 => by simp at *; omega) (fun a b => by simp; omega) l
  have h2 : (sortI l).Nodup := (List.mergeSort_perm l _).symm.nodup h
  rw [List.nodup_iff_pairwise_ne] at h2
  exact (h1.and h2).imp fun ⟨a, b⟩ => by simp at a; omega
theorem sortI_len (l : List Int) : (sortI l).length = l.length := List.length_mergeSort _

def NumPost (zs : List Int) (w : World) (e : Ending) (w' : World) : Prop := ∃ v, e = .returned v ∧ OwnInts w' w.heap.size v (sortI zs) ∧ Below w.heap.size w w'
set_option maxRecDepth 100000 in
set_option maxHeartbeats 1000000 in
theorem numbers_any (A : Option Addr) (n cap : Nat) (gl : List Nat) (num : Nat → Int) (w : World) (hn : gl.length = n) (hm : n ≤ 1000000) (hA : ∀ j (hj : j < gl.length), ∃ g, A = some ⟨g, 0, none⟩ ∧ g < w.heap.size ∧ w.cell? ⟨g, j, none⟩ = some (ptr gl[j]))
    (hid : ∀ x, x ∈ gl → x < w.heap.size ∧ w.cell? ⟨x, 0, none⟩ = some (.int .i64 (num x)) ∧ -9223372036854775808 ≤ num x ∧ num x ≤ 9223372036854775807) :
    Calls Try.prog 28 #[.slice A n cap] w (NumPost (gl.map num) w) := by
  have HN := Lib.hid hn
  have HA := Lib.hid hA
  have HID := Lib.hid hid
  clear hn hA hid
  go_enter Try.func28, Try.ntmps28
  go_wp2
  go_loopw [2, 7] (fun o i wr => ∃ j : Nat, j ≤ n ∧ i = .int .i64 j ∧ Hid (OwnInts wr w.heap.size o ((gl.take j).map num)) ∧ Hid (Below w.heap.size w wr)) (fun _ i _ => n - (intOf i).toNat)
  case atStart => exact ⟨0, Nat.zero_le _, rfl, OwnInts.nil_ _ _, Below.refl _ _⟩
  case round =>
    rename_i o
    obtain ⟨j, hj, rfl, hO, hB⟩ := hrel
    by_cases hlt : j < n
    · have hjl : j < gl.length := by rw [HN.out]; exact hlt
      obtain ⟨g, rfl, hg, hc⟩ := HA.out j hjl
      obtain ⟨x, hx⟩ : ∃ x, gl[j] = x := ⟨_, rfl⟩
      have hxm : x ∈ gl := hx ▸ List.getElem_mem hjl
      rw [hx] at hc
      unfold ptr at hc
      obtain ⟨hxl, hxc, hx1, hx2⟩ := HID.out x hxm
      obtain ⟨y, hy⟩ : ∃ y, num x = y := ⟨_, rfl⟩
      rw [hy] at hxc hx1 hx2
      have c0 := (hB.out.cell (p := ⟨g, j, none⟩) hg).trans hc
      have c1 := (hB.out.cell (p := ⟨x, 0, none⟩) hxl).trans hxc
      have HX := Lib.hid hx
      have HY := Lib.hid hy
      have hla : ((gl.take j).map num).length < 1099511627776 := by simp; omega
      have HLA := Lib.hid hla
      have hj2 : (j : Int) < n := by omega
      clear hx hy hc hxc hxm hla
      go_wp2_with (at_builtin; go_must (refine wpList_push hO.out hB.out.size ⟨hx1, hx2⟩ HLA.out rfl (.tmp 11) (.tmp 16) 40 1 rfl Try.underlying40 rfl rfl ?_); intro v' w1 hown1 hg1 hat1; have H1 := Lib.hid hown1; have H2 := Lib.hid hg1; clear hown1 hg1 hat1)
      go_roundw
      case rel =>
        refine ⟨j + 1, by omega, by go_num, ?_, hB.out.grown H2.out hB.out.size hO.out.base⟩
        have e : (gl.take (j + 1)).map num = (gl.take j).map num ++ [y] := by rw [List.take_succ_eq_append_getElem hjl, HX.out, List.map_append, List.map_cons, HY.out]; rfl
        rw [e]; exact H1.out
      case measure => simp [intOf] <;> omega
    · obtain rfl : j = n := by omega
      have hfull : gl.take j = gl := List.take_of_length_le (by rw [HN.out]; exact Nat.le_refl _)
      rw [hfull] at hO
      have hO2 := hO.out
      have HB := hB
      obtain ⟨zs, hzs⟩ : ∃ zs, gl.map num = zs := ⟨_, rfl⟩
      rw [hzs] at hO2
      have HZS := Lib.hid hzs
      have hzl : zs.length ≤ 1000000 := by rw [← hzs, List.length_map, HN.out]; exact hm
      rcases hO2.1.2 with ⟨rfl, h0⟩ | ⟨g, cap', cur, rfl, hb, hg, h1, h2, h3, h4⟩
      · have hz : zs = [] := List.eq_nil_of_length_eq_zero h0
        have HZ := Lib.hid hz
        clear hO hO2 h0 hz hB hfull hzs
        go_wp2_with fail
        refine (Try.slices_Sort_int_none _ _ _).mono ?_
        rintro e w2 ⟨rfl, rfl⟩
        go_wp2
        go_ret
        rw [HZS.out]
        exact ⟨_, rfl, by rw [HZ.out, (by simp [sortI] : sortI [] = [])]; exact OwnInts.nil_ _ _, HB.out⟩
      · have hgl := heap_lt hg
        have hholds : Sort.Holds (Value.int .i64) wr g 0 zs.toArray := fun i hi => by
          have hi' : i < zs.length := by simpa using hi
          have := hO2.1.cells (g := g) rfl i (.int .i64 zs[i]) (by simp [iv, hi'])
          refine ⟨?_, ?_⟩
          · have e : (zs.toArray)[i]! = zs[i] := by simp [hi']
            rw [e, Nat.zero_add]
            by_cases e : i = 0
            · subst e; simpa [Addr.add] using this
            · simpa [Addr.add, e] using this
          · simp [World.frozen?, hg]
        have HO := Lib.hid hO2
        have HHO := Lib.hid hholds
        have HG := Lib.hid hg
        have H3 := Lib.hid h3
        have HZL := Lib.hid hzl
        clear hO hO2 hholds hg h3 h4 hB hfull hzs h1 h2 hzl
        go_wp2_with fail
        refine (Try.slices_Sort_int g 0 cap' zs wr HHO.out hgl (by have := HZL.out; omega)).mono ?_
        rintro e w2 ⟨rfl, q, os, hw2⟩
        have HW2 := Lib.hid hw2
        clear hw2
        go_wp2
        go_ret
        rw [HZS.out]
        obtain ⟨cur', e1, e2, e3⟩ := putRow_row (Value.int .i64) (Sort.ahead wr q) g (sortI zs).toArray (cur := cur) (e := 3) HG.out (by have := HO.out.1.2; simp [sortI_len, H3.out]; rcases this with ⟨h, _⟩ | ⟨_, _, _, h, _, _, h5, _⟩; cases h; injection h with _ _ h6; subst h6; exact h5)
        have hs2 : (Sort.putRow (Value.int .i64) (Sort.ahead wr q) g 0 (sortI zs).toArray).heap.size = wr.heap.size := by show (wr.heap.modify g _).size = _; simp
        refine ⟨_, rfl, ⟨?_, ?_⟩, ?_⟩
        · rw [sortI_len]
          refine ⟨by simp [iv, sortI_len], .inr ⟨g, cap', cur', rfl, hb, ?_, ?_, ?_, ?_, ?_⟩⟩
          · rw [HW2.out]; exact (grow_old _ _ (by have h7 := hs2; unfold sortI at h7; rw [h7]; exact hgl)).trans e1
          · have := HO.out.1.2; rcases this with ⟨h, _⟩ | ⟨_, _, _, h, _, _, h5, _⟩; cases h; injection h with _ _ h6; subst h6; exact h5
          · have := HO.out.1.2; rcases this with ⟨h, _⟩ | ⟨_, _, _, h, _, _, _, h5, _⟩; cases h; injection h with _ _ h6; subst h6; exact h5
          · rw [e2]; exact H3.out
          · simpa [iv, sortI_len] using e3
        · intro x hx; exact HO.out.2 x (mem_sortI.1 hx)
        · rw [HW2.out]
          refine ⟨HB.out.os, HB.out.tape, HB.out.output, ?_, fun k hk => ?_⟩
          · show _ ≤ (_ ++ os).size
            have := HB.out.size
            rw [Array.size_append]
            have h7 : (Sort.putRow (Value.int .i64) (Sort.ahead wr q) g 0 (sortI zs).toArray).heap.size = wr.heap.size := hs2
            unfold sortI at h7
            omega
          · refine (grow_old _ _ (by have h7 := hs2; unfold sortI at h7; rw [h7]; have := HB.out.size; omega)).trans ((putRow_far _ _ _ _ _ (by omega)).trans (HB.out.block k hk))
end Go.Proofs.Ytlobiebmaheflaa
