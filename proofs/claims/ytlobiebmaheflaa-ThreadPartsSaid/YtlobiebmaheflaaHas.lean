/- Contracts of slices.Index and slices.Contains at a tie. -/
import Derived.Test.YtlobiebmaheflaaTied
import Derived.Laws.StructEq
namespace Go.Proofs.Ytlobiebmaheflaa
open Go.RowKit
set_option linter.unusedVariables false

theorem bytes_inj (a b : ByteArray) : a.toList = b.toList ↔ a = b := by
  constructor
  · intro h
    rw [ByteArray.toList_eq, ByteArray.toList_eq] at h
    exact ByteArray.ext (Array.toList_inj.1 h)
  · rintro rfl; rfl
theorem tie_guard (op : BinOp) (a b : Operand) (xs ys : Array Value) (w : World) : (eqGuard op 72 a b (.agg xs) (.agg ys)).run Try.prog w = .ok () w := run_eqGuard_agg w op 72 a b xs ys (by kernel_rfl)

def IndexPost (TL : List Tie) (k : Tie) (w : World) (e : Ending) (w' : World) : Prop := ∃ r : Int, e = .returned (.int .i64 r) ∧ (0 ≤ r ↔ k ∈ TL) ∧ -1 ≤ r ∧ r ≤ TL.length ∧ Below w.heap.size w w'
/-- The cells of a row of ties, as they are read. -/
def TieCells (w : World) (A : Option Addr) (TL : List Tie) : Prop := ∀ j (hj : j < TL.length), ∃ g, A = some ⟨g, 0, none⟩ ∧ g < w.heap.size ∧ w.cell? ⟨g, j * 2, none⟩ = some (.string TL[j].1) ∧ w.cell? ⟨g, j * 2 + 1, none⟩ = some (.string TL[j].2)

set_option maxRecDepth 100000 in
set_option maxHeartbeats 400000 in
theorem index_any (A : Option Addr) (n cap : Nat) (TL : List Tie) (k : Tie) (w : World) (hn : TL.length = n) (hm : n ≤ 1000000) (hA : TieCells w A TL) :
    Calls Try.prog 41 #[.slice A n cap, .agg #[.string k.1, .string k.2]] w (IndexPost TL k w) := by
  have HN := Lib.hid hn
  have HA := Lib.hid hA
  clear hn hA
  go_enter Try.func41, Try.ntmps41
  go_wp2
  go_loopw [8] (fun i wr => ∃ (j d : Nat), j ≤ n ∧ i = .int .i64 j ∧ Hid (∀ t, t < j → (h : t < TL.length) → TL[t] ≠ k) ∧ Hid (wr = (w.alloc (.cells #[.string k.1, .string k.2] 72)).drewN d)) (fun i _ => n - (intOf i).toNat)
  case atStart => exact ⟨0, 0, Nat.zero_le _, rfl, fun t ht => absurd ht (by omega), rfl⟩
  case round =>
    obtain ⟨j, d, hj, rfl, hno, hW⟩ := hrel
    by_cases hlt : j < n
    · have hjl : j < TL.length := by rw [HN.out]; exact hlt
      obtain ⟨g, rfl, hg, d0, d1⟩ := HA.out j hjl
      obtain ⟨k', hk'⟩ : ∃ k', TL[j] = k' := ⟨_, rfl⟩
      rw [hk'] at d0 d1
      have e0 : wr.cell? ⟨g, j * 2, none⟩ = some (.string k'.1) := by rw [hW.out]; exact (World.cell?_alloc_past _ _ _ hg).trans d0
      have e1 : wr.cell? ⟨g, j * 2 + 1, none⟩ = some (.string k'.2) := by rw [hW.out]; exact (World.cell?_alloc_past _ _ _ hg).trans d1
      have b0 : wr.cell? ⟨w.heap.size, 0, none⟩ = some (.string k.1) := by rw [hW.out]; show (w.alloc (.cells #[.string k.1, .string k.2] 72)).cell? ⟨w.heap.size, 0, none⟩ = _; rw [World.cell?_alloc_at _ _ _ _ rfl]; rfl
      have b1 : wr.cell? ⟨w.heap.size, 1, none⟩ = some (.string k.2) := by rw [hW.out]; show (w.alloc (.cells #[.string k.1, .string k.2] 72)).cell? ⟨w.heap.size, 1, none⟩ = _; rw [World.cell?_alloc_at _ _ _ _ rfl]; rfl
      have HK' := Lib.hid hk'
      have hj2 : (j : Int) < n := by omega
      clear hk' d0 d1 hg
      have hgu := tie_guard
      by_cases he : k = k'
      · have HE := Lib.hid he
        have h1 : k.1.toList = k'.1.toList := by rw [he]
        have h2 : k.2.toList = k'.2.toList := by rw [he]
        clear he
        go_wp2
        go_quiet (fail)
        clear h1 h2
        go_wp2
        go_ret
        refine ⟨j, rfl, ⟨fun _ => ?_, fun _ => by omega⟩, by omega, by rw [HN.out]; omega, ?_⟩
        · rw [HE.out, ← HK'.out]; exact List.getElem_mem _
        · rw [hW.out]; exact ⟨rfl, rfl, rfl, by simp, fun b hb => (MapKept.heap_alloc w _).2 b hb⟩
      · have HE := Lib.hid he
        by_cases h1 : k.1.toList = k'.1.toList
        · have h2 : ¬ k.2.toList = k'.2.toList := fun h2 => he (Prod.ext ((bytes_inj _ _).1 h1) ((bytes_inj _ _).1 h2))
          clear he
          go_wp2
          go_quiet (fail)
          clear h1 h2
          go_wp2
          go_roundw
          case rel =>
            refine ⟨j + 1, d + nq, by omega, by go_num, fun t ht hl => ?_, ?_⟩
            · by_cases e : t = j
              · subst e; rw [HK'.out]; exact fun e => HE.out e.symm
              · exact hno.out t (by omega) hl
            · show wr.drewN nq = _
              rw [hW.out, World.drewN_drewN]
          case measure => simp [intOf] <;> omega
        · clear he
          go_wp2
          go_quiet (fail)
          clear h1
          go_wp2
          go_roundw
          case rel =>
            refine ⟨j + 1, d + nq, by omega, by go_num, fun t ht hl => ?_, ?_⟩
            · by_cases e : t = j
              · subst e; rw [HK'.out]; exact fun e => HE.out e.symm
              · exact hno.out t (by omega) hl
            · show wr.drewN nq = _
              rw [hW.out, World.drewN_drewN]
          case measure => simp [intOf] <;> omega
    · obtain rfl : j = n := by omega
      go_wp2
      go_ret
      refine ⟨-1, rfl, ⟨fun h => by omega, fun h => ?_⟩, by omega, by omega, ?_⟩
      · obtain ⟨t, ht, e⟩ := List.getElem_of_mem h
        exact absurd e (hno.out t (by rw [← HN.out]; exact ht) ht)
      · rw [hW.out]; exact ⟨rfl, rfl, rfl, by simp, fun b hb => (MapKept.heap_alloc w _).2 b hb⟩

def HasPost (TL : List Tie) (k : Tie) (w : World) (e : Ending) (w' : World) : Prop := ∃ b : Bool, e = .returned (.bool b) ∧ (b = true ↔ k ∈ TL) ∧ Below w.heap.size w w'
theorem has_any (A : Option Addr) (n cap : Nat) (TL : List Tie) (k : Tie) (w : World) (hn : TL.length = n) (hm : n ≤ 1000000) (hA : TieCells w A TL) :
    Calls Try.prog 36 #[.slice A n cap, .agg #[.string k.1, .string k.2]] w (HasPost TL k w) := by
  have HN := Lib.hid hn
  have HA : Hid (TieCells (w.alloc (.cells #[.string k.1, .string k.2] 72)) A TL) := fun j hj => by
    obtain ⟨g, h1, h2, h3, h4⟩ := hA j hj
    exact ⟨g, h1, by simp; omega, (World.cell?_alloc_past _ _ _ h2).trans h3, (World.cell?_alloc_past _ _ _ h2).trans h4⟩
  clear hn hA
  go_enter Try.func36, Try.ntmps36
  go_wp2_with fail
  refine (index_any A n cap TL k _ HN.out hm HA.out).mono ?_
  rintro e w1 ⟨r, rfl, hr, hr1, hr2, hb⟩
  have hB : Below w.heap.size w w1 := ((Below.refl _ _).alloc (Nat.le_refl _) _).trans (hb.mono (by simp))
  have HB := Lib.hid hB
  clear hB hb
  rw [HN.out] at hr2
  by_cases h0 : 0 ≤ r
  · have HM := Lib.hid (hr.1 h0)
    clear hr
    go_wp2
    go_ret
    exact ⟨true, rfl, ⟨fun _ => HM.out, fun _ => rfl⟩, HB.out⟩
  · have HM := Lib.hid (fun h => h0 (hr.2 h))
    have h1 : r < 0 := by omega
    have h2 : decide (0 ≤ r) = false := by simp; omega
    clear hr h0
    go_wp2
    go_ret
    exact ⟨false, rfl, ⟨fun h => Bool.noConfusion h, fun h => absurd h HM.out⟩, HB.out⟩
end Go.Proofs.Ytlobiebmaheflaa
