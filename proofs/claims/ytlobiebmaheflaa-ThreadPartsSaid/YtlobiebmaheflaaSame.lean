/- Contract of Same: equality of two lists of lists. -/
import Derived.Test.YtlobiebmaheflaaSorts
namespace Go.Proofs.Ytlobiebmaheflaa
open Go.RowKit
set_option linter.unusedVariables false

/-- 'A' with 'n' places reads as the lists 'll'. -/
def Lists (w : World) (A : Option Addr) (n : Nat) (ll : List (List Int)) : Prop :=
  n = ll.length ∧ ∀ k (hk : k < ll.length), ∃ ad X x c, A = some ad ∧ ad.block < w.heap.size ∧ w.cell? (ad.add k) = some (.slice X x c) ∧ x ≤ 1000000 ∧ Ints w w.heap.size X x ll[k]
theorem Lists.below {w w' : World} {n : Nat} {A : Option Addr} {ll : List (List Int)} (h : Lists w A n ll) (hb : Below w.heap.size w w') : Lists w' A n ll := by
  refine ⟨h.1, fun k hk => ?_⟩
  obtain ⟨ad, X, x, c, e, h1, h2, h3, h4⟩ := h.2 k hk
  have := hb.size
  exact ⟨ad, X, x, c, e, by omega, (hb.cell (by rw [add_block]; exact h1)).trans h2, h3, (h4.below hb).more hb.size⟩
theorem Lists.drewN {w : World} {n : Nat} {A : Option Addr} {ll : List (List Int)} (h : Lists w A n ll) (k : Nat) : Lists (w.drewN k) A n ll := h
theorem Lists.nil_ {w : World} {A : Option Addr} : Lists w A 0 [] := ⟨rfl, fun k hk => by simp at hk⟩
/-- Lists that a slice owns, read. -/
theorem OwnRows.lists {w : World} {B : Nat} {v : Value} {ll : List (List Int)} (h : OwnRows w B v ll) (hlen : ∀ l, l ∈ ll → l.length ≤ 1000000) : ∃ A c, v = .slice A ll.length c ∧ ll.length ≤ c ∧ c ≤ maxLen ∧ Lists w A ll.length ll := by
  obtain ⟨vs, h1, h2, h3⟩ := h
  rcases h1.2 with ⟨rfl, h0⟩ | ⟨g, cap, cur, rfl, hb, hg, q1, q2, q3, q4⟩
  · have : ll = [] := List.eq_nil_of_length_eq_zero (by omega)
    subst this
    exact ⟨none, 0, rfl, Nat.le_refl _, by simp, Lists.nil_⟩
  · refine ⟨_, cap, by rw [h2], by omega, q2, rfl, fun k hk => ?_⟩
    have hk2 : k < vs.length := by omega
    obtain ⟨hi, -⟩ := h3 k hk2 hk
    obtain ⟨X, c, e, e1, e2, e3⟩ := hi.ints
    refine ⟨_, X, _, c, rfl, heap_lt hg, ?_, hlen _ (List.getElem_mem hk), e3⟩
    rw [← e]
    exact h1.cells (g := g) rfl k _ (List.getElem?_eq_getElem hk2)

theorem ret_bool {a b : Bool} (h : a = b) : Ending.returned (.bool a) = .returned (.bool b) := by rw [h]
theorem same_no (A B : Option Addr) (n m c d : Nat) (w : World) (hne : ((n : Int) != (m : Int)) = true) :
    Calls Try.prog 16 #[.slice A n c, .slice B m d] w fun e w' => e = .returned (.bool false) ∧ w = w' := by
  go_enter Try.func16, Try.ntmps16
  go_wp2
  go_ret
  exact ⟨rfl, rfl⟩
theorem take_eq_succ {α : Type} {xs ys : List α} {k : Nat} (h : xs.take k = ys.take k) (hx : k < xs.length) (hy : k < ys.length) (he : xs[k] = ys[k]) : xs.take (k + 1) = ys.take (k + 1) := by
  rw [List.take_succ_eq_append_getElem hx, List.take_succ_eq_append_getElem hy, h, he]
theorem take_succ_eq {xs ys : List Int} {k : Nat} (h : xs.take k = ys.take k) (hx : k < xs.length) (hy : k < ys.length) (he : gi xs k = gi ys k) : xs.take (k + 1) = ys.take (k + 1) := by
  rw [gi_get hx, gi_get hy] at he
  exact take_eq_succ h hx hy he

set_option maxRecDepth 100000 in
set_option maxHeartbeats 2000000 in
theorem same_eq (A B : Option Addr) (n c d : Nat) (xs ys : List (List Int)) (w : World) (ha : Lists w A n xs) (hb : Lists w B n ys) (hn : n ≤ 1000000) :
    Calls Try.prog 16 #[.slice A n c, .slice B n d] w fun e w' => e = .returned (.bool (decide (xs = ys))) ∧ ∃ k, w' = w.drewN k := by
  have HXL := Lib.hid ha.1
  have HYL := Lib.hid hb.1
  have HA := Lib.hid ha
  have HB := Lib.hid hb
  clear ha hb
  go_enter Try.func16, Try.ntmps16
  go_wp2
  go_loopw [5] (fun i wr => ∃ k : Nat, k ≤ n ∧ i = .int .i64 k ∧ Hid (xs.take k = ys.take k) ∧ Hid (∃ d, wr = w.drewN d)) (fun i _ => n - (intOf i).toNat)
  case atStart => exact ⟨0, Nat.zero_le _, rfl, rfl, 0, rfl⟩
  case round =>
    obtain ⟨k, hk, rfl, HT, HW⟩ := hrel
    obtain ⟨wo, hwo⟩ : ∃ x, x = wr := ⟨wr, rfl⟩
    subst hwo
    by_cases hlt : k < n
    · have hkx : k < xs.length := by rw [← HXL.out]; exact hlt
      have hky : k < ys.length := by rw [← HYL.out]; exact hlt
      have hA : Lists wo A n xs := by obtain ⟨d, rfl⟩ := HW.out; exact HA.out
      have hB : Lists wo B n ys := by obtain ⟨d, rfl⟩ := HW.out; exact HB.out
      obtain ⟨ad, X, x, cx, rfl, hadl, a0, hx1, hxi⟩ := hA.2 k hkx
      obtain ⟨bd, Y, y, cy, rfl, hbdl, b0, hy1, hyi⟩ := hB.2 k hky
      obtain ⟨lx, hlx⟩ : ∃ l, xs[k] = l := ⟨_, rfl⟩
      obtain ⟨ly, hly⟩ : ∃ l, ys[k] = l := ⟨_, rfl⟩
      rw [hlx] at hxi
      rw [hly] at hyi
      have HXI := Lib.hid hxi
      have HYI := Lib.hid hyi
      have HLX := Lib.hid hlx
      have HLY := Lib.hid hly
      have hk2 : (k : Int) < n := by omega
      clear hxi hyi hlx hly hA hB hadl hbdl
      by_cases hxy : x = y
      · subst hxy
        have hne : ((x : Int) != (x : Int)) = false := by simp
        go_wp2
        go_quiet (fail)
        clear hne
        go_wp2
        go_loopw [6] (fun j wr' => ∃ q : Nat, q ≤ x ∧ j = .int .i64 q ∧ Hid (lx.take q = ly.take q) ∧ Hid (∃ d, wr' = wo.drewN d)) (fun j _ => x - (intOf j).toNat)
        case atStart => exact ⟨0, Nat.zero_le _, rfl, rfl, nq, rfl⟩
        case round =>
          obtain ⟨q, hq, rfl, HQ, HW2⟩ := hrel
          have a1 : wr.cell? (ad.add k) = some (.slice X x cx) := by obtain ⟨d, rfl⟩ := HW2.out; exact a0
          have b1 : wr.cell? (bd.add k) = some (.slice Y x cy) := by obtain ⟨d, rfl⟩ := HW2.out; exact b0
          by_cases hql : q < x
          · have hxi : Ints wr wo.heap.size X x lx := by obtain ⟨d, rfl⟩ := HW2.out; exact HXI.out
            have hyi : Ints wr wo.heap.size Y x ly := by obtain ⟨d, rfl⟩ := HW2.out; exact HYI.out
            obtain ⟨xd, rfl, _, hca⟩ := hxi.at_ hql
            obtain ⟨yd, rfl, _, hcb⟩ := hyi.at_ hql
            have hq2 : (q : Int) < x := by omega
            have HLL := Lib.hid (And.intro hxi.len hyi.len)
            clear hxi hyi
            by_cases he : gi lx q = gi ly q
            · have HE := Lib.hid he
              have hne : (gi lx q != gi ly q) = false := by simpa using he
              clear he
              go_wp2
              go_quiet (fail)
              go_wp2
              go_roundw
              case rel => exact ⟨q + 1, by omega, by go_num, take_succ_eq HQ.out (HLL.out.1 ▸ hql) (HLL.out.2 ▸ hql) HE.out, by obtain ⟨d, rfl⟩ := HW2.out; exact ⟨_, World.drewN_drewN wo d nq⟩⟩
              case measure => simp [intOf] <;> omega
            · have HE := Lib.hid he
              have hne : (gi lx q != gi ly q) = true := by simpa using he
              clear he
              go_wp2
              go_quiet (fail)
              go_wp2
              go_ret
              refine ⟨ret_bool ?_, ?_⟩
              · symm
                simp only [decide_eq_false_iff_not]
                intro e
                subst e
                exact HE.out (by rw [← HLX.out, ← HLY.out])
              · obtain ⟨d, rfl⟩ := HW2.out
                obtain ⟨d', rfl⟩ := HW.out
                exact ⟨d' + (d + nq), by rw [World.drewN_drewN, World.drewN_drewN]⟩
          · obtain rfl : q = x := by omega
            have HE := Lib.hid (show lx = ly by
              have h := HQ.out
              rw [List.take_of_length_le (by have := HXI.out.len; omega), List.take_of_length_le (by have := HYI.out.len; omega)] at h
              exact h)
            go_wp2
            go_roundw
            case rel =>
              refine ⟨k + 1, by omega, by go_num, take_eq_succ HT.out hkx hky (by rw [HLX.out, HLY.out]; exact HE.out), ?_⟩
              obtain ⟨d, rfl⟩ := HW2.out
              obtain ⟨d', rfl⟩ := HW.out
              exact ⟨_, World.drewN_drewN w d' d⟩
            case measure => simp [intOf] <;> omega
      · have hne : ((x : Int) != (y : Int)) = true := by simp; omega
        have HXY := Lib.hid hxy
        clear hxy
        go_wp2
        go_quiet (fail)
        clear hne
        go_wp2
        go_ret
        refine ⟨ret_bool ?_, ?_⟩
        · symm
          simp only [decide_eq_false_iff_not]
          intro e
          subst e
          have h1 := HXI.out.len
          have h2 := HYI.out.len
          rw [← HLX.out] at h1
          rw [← HLY.out] at h2
          exact HXY.out (h1.symm.trans h2)
        · obtain ⟨d', rfl⟩ := HW.out
          exact ⟨d' + nq, by rw [World.drewN_drewN]⟩
    · have HE := Lib.hid (show xs = ys by
        have h := HT.out
        rw [List.take_of_length_le (by have := HXL.out; omega), List.take_of_length_le (by have := HYL.out; omega)] at h
        exact h)
      go_wp2
      go_ret
      refine ⟨ret_bool (by simp [HE.out]), ?_⟩
      obtain ⟨d', rfl⟩ := HW.out
      exact ⟨d', rfl⟩
theorem same_any (A B : Option Addr) (n m c d : Nat) (xs ys : List (List Int)) (w : World) (ha : Lists w A n xs) (hb : Lists w B m ys) (hn : n ≤ 1000000) :
    Calls Try.prog 16 #[.slice A n c, .slice B m d] w fun e w' => e = .returned (.bool (decide (xs = ys))) ∧ ∃ k, w' = w.drewN k := by
  by_cases h : n = m
  · subst h
    exact same_eq A B n c d xs ys w ha hb hn
  · refine (same_no A B n m c d w (by simp; omega)).mono ?_
    rintro e w' ⟨rfl, rfl⟩
    refine ⟨ret_bool ?_, 0, rfl⟩
    have h1 := ha.1
    have h2 := hb.1
    symm
    simp
    rintro rfl
    omega
end Go.Proofs.Ytlobiebmaheflaa
