/- append of a whole list onto a slice of the call's own; slices.Equal, slices.Clone. -/
import Derived.Test.YtfnbchbndmbjaaaDiff
import Derived.WalkSpells
namespace Go.Proofs.Ytfnbchbndmbjaaa
open Go.RowKit
set_option linter.unusedVariables false

theorem I64s.append {l m : List Int} (h : I64s l) (k : I64s m) : I64s (l ++ m) := by
  intro x hx
  rcases List.mem_append.1 hx with hx | hx
  · exact h x hx
  · exact k x hx
theorem iv_append (l m : List Int) : iv (l ++ m) = iv l ++ iv m := by simp [iv]

theorem run_append_none (w : World) (B : Nat) (t ty : TypeId) (ht : Try.prog.underlying t = some (.slice 3)) (v : Value) (acc : List Int) (hown : OwnInts w B v acc) (c : Nat) : (Builtin.append_ #[t, t] ty #[v, .slice none 0 c]).run Try.prog w = .ok v w := by
  obtain ⟨i0, hi, hz0, hz1, hz2⟩ := info_parts int_info
  rcases hown.1.2 with ⟨rfl, _⟩ | ⟨g, cap, cur, rfl, _, _, hnc, _⟩
  · simp [Builtin.append_, run_underlying ht, sizeOf, typeInfo, hi, Builtin.lenOf, Builtin.firstCells]
  · simp [Builtin.append_, run_underlying ht, sizeOf, typeInfo, hi, Builtin.lenOf, Builtin.firstCells, hnc, storeCells]

theorem run_join (w : World) (B : Nat) (t ty : TypeId) (ht : Try.prog.underlying t = some (.slice 3)) (v : Value) (acc : List Int) (hown : OwnInts w B v acc) (hB : B ≤ w.heap.size)
    (D : Nat) (A : Option Addr) (m c : Nat) (l : List Int) (hr : Ints w D A m l) (hlen : (acc.length + m) * 8 ≤ 140737488355328) :
    ∃ v' w', (Builtin.append_ #[t, t] ty #[v, .slice A m c]).run Try.prog w = .ok v' w' ∧ OwnInts w' B v' (acc ++ l) ∧ w.grownBy w' v.ownBlock ∧ (v'.ownBlock = v.ownBlock ∨ ∃ k, v'.ownBlock = some k ∧ w.heap.size ≤ k) := by
  obtain ⟨i0, hi, hz0, hz1, hz2⟩ := info_parts int_info
  have hml := hr.len
  rcases A with _ | ad
  · have hl : l = [] := by
      rcases hr.2.2 with h | ⟨_, h, _⟩
      · simpa [iv] using h
      · cases h
    subst hl
    obtain rfl : m = 0 := hml.symm
    exact ⟨v, w, run_append_none w B t ty ht v acc hown c, by simpa using hown, World.grownBy.refl w _, .inl rfl⟩
  · have hcells : ∀ j u, (iv l)[j]? = some u → w.cell? (ad.add j) = some u := by
      intro j u hu
      rcases hr.2.2 with h | ⟨ad', h, _, hc⟩
      · rw [h] at hu; cases hu
      · injection h with h; subst h; exact hc j u hu
    have h1 : ∀ u ∈ iv l, u.oneCell' = true := by
      intro u hu
      simp only [iv, List.mem_map] at hu
      obtain ⟨x, _, rfl⟩ := hu
      rfl
    obtain ⟨v', w', hrun, h2, h3, _, h5⟩ := run_append_own_at (P := Try.prog) w B t ty 3 i0 _ 1 8 ht hi hz0 hz1 hz2 rfl (by omega) v acc.length (iv acc) hown.1 ad m c (iv l) (by rw [iv_len, hml]; omega) hcells h1 (by simp only [maxLen]; omega) hlen hB
    refine ⟨v', w', hrun, ⟨?_, hown.2.append hr.2.1⟩, h3, ?_⟩
    · rw [iv_append, List.length_append, hml]; exact h2
    · rcases h5 with h | h
      · exact .inl h
      · exact .inr ⟨_, h, Nat.le_refl _⟩

theorem wp_join {o : Oper} {a : Act} {K : Act → World → Prop} {w : World} {Q : Exit → Act → World → Prop} {B : Nat} {v : Value} {acc : List Int} (hown : OwnInts w B v acc) (hB : B ≤ w.heap.size)
    {D : Nat} {A : Option Addr} {m : Nat} {l : List Int} (hr : Ints w D A m l) (hlen : (acc.length + m) * 8 ≤ 140737488355328) (s x : Operand) (t : TypeId) (c : Nat)
    (ho : o.op = .call { callee := .builtin .append, args := #[s, x], argTypes := #[t, t] }) (ht : Try.prog.underlying t = some (.slice 3)) (hs : a.eval s = v) (hx : a.eval x = .slice A m c)
    (h : ∀ v' w', OwnInts w' B v' (acc ++ l) → w.grownBy w' v.ownBlock → (v'.ownBlock = v.ownBlock ∨ ∃ k, v'.ownBlock = some k ∧ w.heap.size ≤ k) → K (a.put o.dst v') w') : o.wp Try.prog a w K Q := by
  obtain ⟨v', w', hrun, h2, h3, h4⟩ := run_join w B t o.type ht v acc hown hB D A m c l hr hlen
  unfold Oper.wp execOp
  simp only [ho, resolve, invoke, builtin, Sem.run_bind, Sem.run_pure, Result.andThen_ok, List.map_toArray, List.map_cons, List.map_nil, hs, hx, hrun]
  exact h v' w' h2 h3 h4

theorem wpList_join {ops : Array Oper} {rest : List Oper} {o : Oper} {a : Act} {w : World} {Q : Exit → Act → World → Prop} {B : Nat} {v : Value} {acc : List Int} (hown : OwnInts w B v acc) (hB : B ≤ w.heap.size)
    {D : Nat} {A : Option Addr} {m : Nat} {l : List Int} (hr : Ints w D A m l) (hlen : (acc.length + m) * 8 ≤ 140737488355328) (hgd : o.guard = none) (s x : Operand) (t : TypeId) (c : Nat)
    (ho : o.op = .call { callee := .builtin .append, args := #[s, x], argTypes := #[t, t] }) (ht : Try.prog.underlying t = some (.slice 3)) (hs : a.eval s = v) (hx : a.eval x = .slice A m c)
    (h : ∀ v' w', OwnInts w' B v' (acc ++ l) → w.grownBy w' v.ownBlock → (v'.ownBlock = v.ownBlock ∨ ∃ k, v'.ownBlock = some k ∧ w.heap.size ≤ k) → wpList Try.prog ops Q rest (a.put o.dst v') w') : wpList Try.prog ops Q (o :: rest) a w :=
  wpList_plain hgd fun _ hK => wp_join hown hB hr hlen s x t c ho ht hs hx fun v' w' h2 h3 h4 => hK _ _ (h v' w' h2 h3 h4)

/-- An empty slice that the call has just made. -/
theorem OwnInts.made (w : World) (B : Nat) (hB : B ≤ w.heap.size) : OwnInts (w.alloc (.cells #[] 3)) B (.slice (some ⟨w.heap.size, 0, none⟩) 0 0) [] :=
  ⟨World.ownsRow_made w #[] 0 hB (Nat.zero_le _) rfl, fun x hx => by cases hx⟩

set_option maxHeartbeats 400000 in
theorem clone_any (A : Option Addr) (n c : Nat) (l : List Int) (w : World) (ha : Ints w w.heap.size A n l) (hn : n * 8 ≤ 140737488355328) :
    Calls Try.prog 27 #[.slice A n c] w fun e w' => ∃ v, e = .returned v ∧ OwnInts w' w.heap.size v l ∧ Below w.heap.size w w' := by
  rcases A with _ | ad
  · have heq := fun W => Lib.run_eql_slice_nil (P := Try.prog) W 22 3 none n c 0 0 Try.underlying22
    have hl : l = [] := by
      rcases ha.2.2 with h | ⟨_, h, _⟩
      · simpa [iv] using h
      · cases h
    subst hl
    obtain rfl : n = 0 := ha.len.symm
    go_enter Try.func27, Try.ntmps27
    go_wp2
    go_ret
    exact ⟨_, rfl, OwnInts.nil_ _ _, Below.refl _ _⟩
  · have heq := fun W => Lib.run_eql_slice_nil (P := Try.prog) W 22 3 (some ad) n c 0 0 Try.underlying22
    have hown := OwnInts.made w w.heap.size (Nat.le_refl _)
    have ha2 : Ints (w.alloc (.cells #[] 3)) w.heap.size (some ad) n l := ha.below ((Below.refl _ _).alloc (Nat.le_refl _) _)
    have hB : w.heap.size ≤ (w.alloc (.cells #[] 3)).heap.size := by simp
    have hn2 : (([] : List Int).length + n) * 8 ≤ 140737488355328 := by simpa using hn
    go_enter Try.func27, Try.ntmps27
    go_wp2_with (at_builtin; go_must (refine wpList_join hown hB ha2 hn2 rfl (.tmp 5) (.tmp 6) 22 c rfl Try.underlying22 rfl rfl ?_); intro v' w1 hown1 hg1 hat1)
    go_ret
    exact ⟨_, rfl, hown1, ((Below.refl _ _).alloc (Nat.le_refl _) _).grown hg1 (by simp) (fun k hk => by
      have e : w.heap.size = k := by simpa [Value.ownBlock] using hk
      omega)⟩

theorem equal_no (A B : Option Addr) (n m c d : Nat) (w : World) (hne : ((n : Int) != (m : Int)) = true) :
    Calls Try.prog 26 #[.slice A n c, .slice B m d] w fun e w' => e = .returned (.bool false) ∧ w = w' := by
  go_enter Try.func26, Try.ntmps26
  go_wp2
  go_ret
  exact ⟨rfl, rfl⟩

set_option maxHeartbeats 400000 in
theorem equal_eq (A B : Option Addr) (n c d : Nat) (xs ys : List Int) (w : World) (ha : Ints w w.heap.size A n xs) (hb : Ints w w.heap.size B n ys) (hn : n ≤ maxLen) :
    Calls Try.prog 26 #[.slice A n c, .slice B n d] w fun e w' => e = .returned (.bool (decide (xs = ys))) ∧ ∃ k, w' = w.drewN k := by
  unfold maxLen at hn
  go_enter Try.func26, Try.ntmps26
  go_wp2
  go_loopw [5, 13] (fun _ i wr => ∃ k : Nat, k ≤ n ∧ i = .int .i64 k ∧ xs.take k = ys.take k ∧ ∃ d, wr = w.drewN d) (fun _ i _ => n - (intOf i).toNat)
  case atStart => exact ⟨0, Nat.zero_le _, rfl, rfl, 0, rfl⟩
  case round =>
    obtain ⟨k, hk, rfl, ht, dd, rfl⟩ := hrel
    by_cases hlt : k < n
    · obtain ⟨ad, rfl, _, hca⟩ := ha.at_ hlt
      obtain ⟨bd, rfl, _, hcb⟩ := hb.at_ hlt
      have hlx := ha.len
      have hly := hb.len
      have HT := Lib.hid (And.intro ht (And.intro hlx hly)); clear ht hlx hly
      by_cases he : gi xs k = gi ys k
      · have HE := Lib.hid he
        have hne : (gi xs k != gi ys k) = false := by simpa using he
        clear he
        go_wp2
        go_quiet (fail)
        go_wp2
        go_roundw
        case rel => exact ⟨k + 1, by omega, by go_num, take_succ_eq HT.out.1 (HT.out.2.1 ▸ hlt) (HT.out.2.2 ▸ hlt) HE.out, dd + nq, (by first | rfl | exact World.drewN_drewN w dd nq)⟩
        case measure => simp [intOf]; omega
      · have HE := Lib.hid he
        have hne : (gi xs k != gi ys k) = true := by simpa using he
        clear he
        go_wp2
        go_quiet (fail)
        go_wp2
        go_ret
        exact ⟨ret_bool (by simp; intro e; subst e; exact HE.out rfl), dd + nq, (by first | rfl | exact World.drewN_drewN w dd nq)⟩
    · have hlx := ha.len
      have hly := hb.len
      have hxy : xs = ys := by
        rw [List.take_of_length_le (by omega), List.take_of_length_le (by omega)] at ht
        exact ht
      have HE := Lib.hid hxy
      clear ht hlx hly hxy
      go_wp2
      go_ret
      exact ⟨ret_bool (by simp [HE.out]), _, rfl⟩

theorem equal_any (A B : Option Addr) (n m c d : Nat) (xs ys : List Int) (w : World) (ha : Ints w w.heap.size A n xs) (hb : Ints w w.heap.size B m ys) (hn : n ≤ maxLen) :
    Calls Try.prog 26 #[.slice A n c, .slice B m d] w fun e w' => e = .returned (.bool (decide (xs = ys))) ∧ ∃ k, w' = w.drewN k := by
  by_cases h : n = m
  · subst h
    exact equal_eq A B n c d xs ys w ha hb hn
  · refine (equal_no A B n m c d w (by simp; omega)).mono ?_
    rintro e w' ⟨rfl, rfl⟩
    refine ⟨ret_bool ?_, 0, rfl⟩
    have h1 := ha.len
    have h2 := hb.len
    symm
    simp
    rintro rfl
    omega
end Go.Proofs.Ytfnbchbndmbjaaa
