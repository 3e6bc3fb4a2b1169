/- slices.Grow of the nil slice; slices.Concat of three slices. -/
import Derived.Test.YtfnbchbndmbjaaaJoin
namespace Go.Proofs.Ytfnbchbndmbjaaa
open Go.RowKit
set_option linter.unusedVariables false

def grown0 (w : World) (n : Nat) : Array Value := Builtin.zeroCells (Value.int .i64 0).cells n ++ Builtin.zeroCells (Value.int .i64 0).cells (grownCap w n 0 3 - n)
theorem run_append_zeros (w : World) (ty : TypeId) (n : Nat) (h0 : 0 < n) (hn : n ≤ 1099511627776) : (Builtin.append_ #[22, 3] ty #[.slice none 0 0, .int .i64 n]).run Try.prog w =
    .ok (.slice (some ⟨w.heap.size, 0, none⟩) n (grownCap w n 0 3)) (w.drew.alloc (.cells (grown0 w n) 3)) := by
  obtain ⟨i0, hi, hz0, hz1, hz2⟩ := info_parts int_info
  have hn0 : n ≠ 0 := by omega
  have hw : IntKind.i64.wrap (n : Int) = n := IntWalk.i64_in _ (by omega)
  have h63' : ¬ (9223372036854775807 < (n : Int)) := by omega
  have hneg : ¬ ((n : Int) < 0) := by omega
  have h48 : ¬ (281474976710656 < (n : Int) * 8) := by omega
  simp [Builtin.append_, run_underlying Try.underlying22, run_underlying Try.underlying3, sizeOf, typeInfo, zeroValue, hi, hz0, hz1, hz2, Builtin.lenOf, hn0, h63', Question.forced, run_firstCells_none, newRow, grownCap, grown0, asInt, asIntOf, hw, hneg, h48]
  intro h
  rw [nextslicecap_zero h0] at h
  omega

theorem grown0_size (w : World) (n : Nat) : (grown0 w n).size = grownCap w n 0 3 := by
  have h1 := grownCap_ge w n 0 3
  simp [grown0, Builtin.zeroCells, Value.cells]
  omega

theorem wpList_zeros {ops : Array Oper} {rest : List Oper} {o : Oper} {a : Act} {w : World} {Q : Exit → Act → World → Prop} {n : Nat} (h0 : 0 < n) (hn : n ≤ 1099511627776) (hgd : o.guard = none) (s x : Operand)
    (ho : o.op = .call { callee := .builtin .append, args := #[s, x], argTypes := #[22, 3] }) (hs : a.eval s = .slice none 0 0) (hx : a.eval x = .int .i64 n)
    (h : ∀ cap w', n ≤ cap → OwnInts w' w.heap.size (.slice (some ⟨w.heap.size, 0, none⟩) 0 cap) [] → Below w.heap.size w w' → wpList Try.prog ops Q rest (a.put o.dst (.slice (some ⟨w.heap.size, 0, none⟩) n cap)) w') : wpList Try.prog ops Q (o :: rest) a w := by
  refine wpList_plain hgd fun next hnext => ?_
  have hrun := run_append_zeros w o.type n h0 hn
  unfold Oper.wp execOp
  simp only [ho, resolve, invoke, builtin, Sem.run_bind, Sem.run_pure, Result.andThen_ok, List.map_toArray, List.map_cons, List.map_nil, hs, hx, hrun]
  refine hnext _ _ (h _ _ (grownCap_ge w n 0 3) ⟨?_, fun x hx => by cases hx⟩ ((Below.refl _ _).drew.alloc (Nat.le_refl _) _))
  exact World.ownsRow_made w.drew (grown0 w n) (grownCap w n 0 3) (Nat.le_refl _) (grownCap_le_maxLen w n 0 3 (by simp only [maxLen]; omega)) (by rw [grown0_size]; omega)

set_option maxHeartbeats 400000 in
theorem grow_nil (n : Nat) (w : World) (hn : n ≤ 1099511627776) :
    Calls Try.prog 35 #[.slice none 0 0, .int .i64 n] w fun e w' => ∃ v, e = .returned v ∧ OwnInts w' w.heap.size v [] ∧ Below w.heap.size w w' := by
  by_cases h0 : 0 < n
  · go_enter Try.func35, Try.ntmps35
    go_wp2_with (at_builtin; go_must (refine wpList_zeros h0 hn rfl (.tmp 20) (.tmp 21) rfl rfl rfl ?_); intro cap w1 hcap hown hbel; (have hm : ¬ (cap : Int) = 0 := by omega))
    go_ret
    exact ⟨_, rfl, hown, hbel⟩
  · obtain rfl : n = 0 := by omega
    go_enter Try.func35, Try.ntmps35
    go_wp2
    go_ret
    exact ⟨_, rfl, OwnInts.nil_ _ _, Below.refl _ _⟩

def tot (x : Nat → Nat) : Nat → Nat
  | 0 => 0
  | k + 1 => tot x k + x k
def cat (ls : Nat → List Int) : Nat → List Int
  | 0 => []
  | k + 1 => cat ls k ++ ls k
theorem tot_le {x : Nat → Nat} {N : Nat} (h : ∀ i, i < N → x i ≤ 68719476736) : ∀ k, k ≤ N → tot x k ≤ k * 68719476736
  | 0, _ => Nat.zero_le _
  | k + 1, hk => by have := tot_le h k (by omega); have := h k (by omega); simp only [tot]; omega
theorem cat_len {x : Nat → Nat} {ls : Nat → List Int} {N : Nat} (h : ∀ i, i < N → x i = (ls i).length) : ∀ k, k ≤ N → (cat ls k).length = tot x k
  | 0, _ => rfl
  | k + 1, hk => by have := cat_len h k (by omega); have := h k (by omega); simp only [cat, tot, List.length_append]; omega

set_option maxHeartbeats 400000 in
theorem concat_any (g N : Nat) (X : Nat → Option Addr) (x c : Nat → Nat) (ls : Nat → List Int) (w : World) (hN : N ≤ 8) (hg : g < w.heap.size) (hc : ∀ i, i < N → w.cell? ⟨g, i, none⟩ = some (.slice (X i) (x i) (c i)))
    (hi : ∀ i, i < N → Ints w w.heap.size (X i) (x i) (ls i)) (hx : ∀ i, i < N → x i ≤ 68719476736) :
    Calls Try.prog 32 #[.slice (some ⟨g, 0, none⟩) N N] w fun e w' => ∃ v, e = .returned v ∧ OwnInts w' w.heap.size v (cat ls N) ∧ Below w.heap.size w w' := by
  have HC := Lib.hid hc
  have HI := Lib.hid hi
  have HT := Lib.hid (tot_le hx)
  have HX := Lib.hid hx
  have HLN := Lib.hid (cat_len (fun i h => (hi i h).1))
  clear hc hi hx
  go_enter Try.func32, Try.ntmps32
  go_wp2
  go_loop [3, 5, 11] (fun s _ i => ∃ k : Nat, k ≤ N ∧ i = .int .i64 k ∧ s = .int .i64 (tot x k)) (fun _ _ i => N - (intOf i).toNat)
  case atStart => exact ⟨0, Nat.zero_le _, rfl, rfl⟩
  case round =>
    obtain ⟨k, hk, rfl, rfl⟩ := hrel
    by_cases hlt : k < N
    · have hcell := HC.out k hlt
      have ht := HT.out k hk
      have hxk := HX.out k hlt
      go_wp2
      go_round
      case rel => exact ⟨k + 1, by omega, by go_num, by simp only [tot]; go_num⟩
      case measure => simp [intOf] <;> omega
    · obtain rfl : k = N := by omega
      have ht := HT.out k hk
      obtain ⟨T, hT⟩ : ∃ T, tot x k = T := ⟨_, rfl⟩
      rw [hT] at ht ⊢
      have HTT := Lib.hid hT
      clear hT
      go_wp2_with fail
      refine (grow_nil T _ (by omega)).mono ?_
      rintro e w1 ⟨v, rfl, hown, hbel⟩
      have hv : ∃ A1 n1 c1, v = .slice A1 n1 c1 := by
        rcases hown.1.2 with ⟨rfl, _⟩ | ⟨g, cap, cur, rfl, _⟩ <;> exact ⟨_, _, _, rfl⟩
      have HO0 := Lib.hid hown
      clear hown
      go_wp2
      go_loopw [6, 8, 27] (fun o _ i wr => ∃ k' : Nat, k' ≤ k ∧ i = .int .i64 k' ∧ OwnInts wr w.heap.size o (cat ls k') ∧ Below w.heap.size w wr) (fun _ _ i _ => k - (intOf i).toNat)
      case atStart => exact ⟨0, Nat.zero_le _, rfl, HO0.out, hbel⟩
      case round =>
        clear hbel HO0
        obtain ⟨j, hj, rfl, hown, hbel⟩ := hrel
        by_cases hlt2 : j < k
        · have hcell : wr.cell? ⟨g, j, none⟩ = some (.slice (X j) (x j) (c j)) := (hbel.cell (p := ⟨g, j, none⟩) hg).trans (HC.out j hlt2)
          have hints := (HI.out j hlt2).below hbel
          have hlen : ((cat ls j).length + x j) * 8 ≤ 140737488355328 := by
            have h1 := HLN.out j (by omega)
            have h2 := HT.out j (by omega)
            have h3 := HX.out j hlt2
            omega
          go_wp2_with (at_builtin; go_must (refine wpList_join hown hbel.size hints hlen rfl (.tmp 31) (.tmp 32) 22 (c j) rfl Try.underlying22 rfl rfl ?_); intro v' w2 hown1 hg1 hat1)
          go_roundw
          case rel => exact ⟨j + 1, by omega, by go_num, hown1, hbel.grown hg1 hbel.size hown.base⟩
          case measure => simp [intOf] <;> omega
        · obtain rfl : j = k := by omega
          go_wp2
          go_ret
          exact ⟨_, rfl, hown, hbel⟩
end Go.Proofs.Ytfnbchbndmbjaaa
