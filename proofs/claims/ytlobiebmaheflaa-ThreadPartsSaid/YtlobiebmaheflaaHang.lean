/- Contract of Hang: whether two messages are linked. -/
import Derived.Test.YtlobiebmaheflaaRefs
namespace Go.Proofs.Ytlobiebmaheflaa
open Go.RowKit
set_option linter.unusedVariables false

/-- The identifier at a place. -/
theorem IdRow.at_ {w : World} {G : Nat → Prop} {A : Option Addr} {n c : Nat} {l : List ByteArray} (h : IdRow w G (.slice A n c) l) {j : Nat} (hj : j < n) : ∃ ad s, A = some ad ∧ G ad.block ∧ ad.block < w.heap.size ∧ l[j]? = some s ∧ w.cell? (ad.add j) = some (.string s) := by
  obtain ⟨A', cap, h1, h2, h3, h4⟩ := h
  injection h1 with e1 e2 e3
  subst e1; subst e2
  rcases h4 with rfl | ⟨ad, a1, a2, a3, a4⟩
  · simp at hj
  · exact ⟨ad, l[j], a1, a2, a3, List.getElem?_eq_getElem hj, a4 j _ (List.getElem?_eq_getElem hj)⟩
theorem IdRow.len {w : World} {G : Nat → Prop} {A : Option Addr} {n c : Nat} {l : List ByteArray} (h : IdRow w G (.slice A n c) l) : n = l.length ∧ n ≤ 1000000 := by
  obtain ⟨A', cap, h1, h2, h3, h4⟩ := h
  injection h1 with e1 e2 e3
  exact ⟨e2, by omega⟩

def HangPost (a b : Msg) (w : World) (e : Ending) (w' : World) : Prop := ∃ r : Bool, e = .returned (.bool r) ∧ (r = true ↔ Hangs a b) ∧ Below w.heap.size w w'

set_option maxRecDepth 100000 in
set_option maxHeartbeats 2000000 in
theorem hang_any (a b : Msg) (va vb : Value) (w : World) {G : Nat → Prop} (ha : IdRow w G va a.ids) (hb : IdRow w G vb b.ids) :
    Calls Try.prog 30 #[.agg #[.int .i64 a.id, va, .string a.base], .agg #[.int .i64 b.id, vb, .string b.base]] w (HangPost a b w) := by
  obtain ⟨A, x, cx, rfl⟩ : ∃ A x c, va = .slice A x c := by obtain ⟨A, c, e, -⟩ := ha; exact ⟨A, _, c, e⟩
  obtain ⟨B, y, cy, rfl⟩ : ∃ A x c, vb = .slice A x c := by obtain ⟨A, c, e, -⟩ := hb; exact ⟨A, _, c, e⟩
  obtain ⟨hxl, hx1⟩ := ha.len
  obtain ⟨hyl, hy1⟩ := hb.len
  have HA := Lib.hid ha
  have HB := Lib.hid hb
  have HXL := Lib.hid hxl
  have HYL := Lib.hid hyl
  clear ha hb hxl hyl
  obtain ⟨W, hW⟩ : ∃ W, W = (w.alloc (.cells #[.int .i64 a.id, .slice A x cx, .string a.base] 58)).alloc (.cells #[.int .i64 b.id, .slice B y cy, .string b.base] 58) := ⟨_, rfl⟩
  have k1 := MapKept.heap_alloc w (.cells #[.int .i64 a.id, .slice A x cx, .string a.base] 58)
  have k2 := MapKept.heap_alloc (w.alloc (.cells #[.int .i64 a.id, .slice A x cx, .string a.base] 58)) (.cells #[.int .i64 b.id, .slice B y cy, .string b.base] 58)
  have s1 : (w.alloc (.cells #[.int .i64 a.id, .slice A x cx, .string a.base] 58)).heap.size = w.heap.size + 1 := by simp
  rw [s1] at k2
  have b1 : W.heap[w.heap.size]? = some (.cells #[.int .i64 a.id, .slice A x cx, .string a.base] 58 (0, 0)) := by rw [hW, k2.2 _ (by omega)]; exact k1.1
  have b2 : W.heap[w.heap.size + 1]? = some (.cells #[.int .i64 b.id, .slice B y cy, .string b.base] 58 (0, 0)) := by rw [hW]; exact k2.1
  have hbel : Below w.heap.size w W := by rw [hW]; exact ((Below.refl _ _).alloc (Nat.le_refl _) _).alloc (by simp) _
  have ca1 : W.cell? ⟨w.heap.size, 1, none⟩ = some (.slice A x cx) := by simp [World.cell?, b1]
  have ca2 : W.cell? ⟨w.heap.size, 2, none⟩ = some (.string a.base) := by simp [World.cell?, b1]
  have cb1 : W.cell? ⟨w.heap.size + 1, 1, none⟩ = some (.slice B y cy) := by simp [World.cell?, b2]
  have cb2 : W.cell? ⟨w.heap.size + 1, 2, none⟩ = some (.string b.base) := by simp [World.cell?, b2]
  have HBEL := Lib.hid hbel
  have HW := Lib.hid hW
  clear k1 k2 s1 b1 b2 hbel hW
  by_cases hbase : a.base.toList = b.base.toList
  · go_enter Try.func30, Try.ntmps30
    go_wp2
    rw [← HW.out]
    have HBS := Lib.hid hbase
    clear hbase
    have hend : ∀ d, Below w.heap.size w (W.drewN d) := fun d => ⟨HBEL.out.os, HBEL.out.tape, HBEL.out.output, HBEL.out.size, HBEL.out.block⟩
    have HEND := Lib.hid hend
    clear hend
    go_loopw [5] (fun i wr => ∃ k : Nat, k ≤ x ∧ i = .int .i64 k ∧ Hid (∀ t, t < k → ∀ s, a.ids[t]? = some s → s ∉ b.ids) ∧ Hid (∃ d, wr = W.drewN d)) (fun i _ => x - (intOf i).toNat)
    case atStart => exact ⟨0, Nat.zero_le _, rfl, fun t ht => absurd ht (by omega), 0, rfl⟩
    case round =>
      obtain ⟨k, hk, rfl, HT, HWR⟩ := hrel
      obtain ⟨wo, hwo⟩ : ∃ x, x = wr := ⟨wr, rfl⟩
      subst hwo
      have a1 : wo.cell? ⟨w.heap.size, 1, none⟩ = some (.slice A x cx) := by obtain ⟨d, rfl⟩ := HWR.out; exact ca1
      by_cases hlt : k < x
      · have hk2 : (k : Int) < x := by omega
        go_wp2
        go_loopw [6] (fun j wr' => ∃ q : Nat, q ≤ y ∧ j = .int .i64 q ∧ Hid (∀ t, t < q → ∀ s, b.ids[t]? = some s → a.ids[k]? ≠ some s) ∧ Hid (∃ d, wr' = W.drewN d)) (fun j _ => y - (intOf j).toNat)
        case atStart => exact ⟨0, Nat.zero_le _, rfl, fun t ht => absurd ht (by omega), HWR.out⟩
        case round =>
          obtain ⟨q, hq, rfl, HQ, HW2⟩ := hrel
          have b1 : wr.cell? ⟨w.heap.size + 1, 1, none⟩ = some (.slice B y cy) := by obtain ⟨d, rfl⟩ := HW2.out; exact cb1
          by_cases hql : q < y
          · have a2 : wr.cell? ⟨w.heap.size, 1, none⟩ = some (.slice A x cx) := by obtain ⟨d, rfl⟩ := HW2.out; exact ca1
            obtain ⟨ad, s, rfl, -, hadl, hs, hca⟩ := HA.out.at_ hlt
            obtain ⟨bd, t, rfl, -, hbdl, ht, hcb⟩ := HB.out.at_ hql
            have hca' : wr.cell? (ad.add k) = some (.string s) := by
              obtain ⟨d, rfl⟩ := HW2.out
              exact ((HEND.out d).cell (p := ad.add k) (by rw [add_block]; exact hadl)).trans hca
            have hcb' : wr.cell? (bd.add q) = some (.string t) := by
              obtain ⟨d, rfl⟩ := HW2.out
              exact ((HEND.out d).cell (p := bd.add q) (by rw [add_block]; exact hbdl)).trans hcb
            have hq2 : (q : Int) < y := by omega
            have HS := Lib.hid (And.intro hs ht)
            clear hs ht hca hcb hadl hbdl
            by_cases he : s.toList = t.toList
            · have HE := Lib.hid he
              go_wp2
              go_quiet (fail)
              clear he
              go_wp2
              go_ret
              obtain ⟨d, rfl⟩ := HW2.out
              refine ⟨true, rfl, ⟨fun _ => ⟨(bytes_inj _ _).1 HBS.out, s, List.mem_of_getElem? HS.out.1, ?_⟩, fun _ => rfl⟩, (by rw [World.drewN_drewN]; exact HEND.out (d + nq))⟩
              rw [(bytes_inj _ _).1 HE.out]
              exact List.mem_of_getElem? HS.out.2
            · have HE := Lib.hid he
              have he2 : (s.toList == t.toList) = false := by simpa using he
              clear he
              go_wp2
              go_quiet (fail)
              clear he2
              go_wp2
              go_roundw
              case rel =>
                refine ⟨q + 1, by omega, by go_num, fun r hr s' hs' e => ?_, by obtain ⟨d, rfl⟩ := HW2.out; exact ⟨_, World.drewN_drewN W d nq⟩⟩
                by_cases e2 : r = q
                · subst e2
                  rw [HS.out.2] at hs'
                  injection hs' with hs'
                  subst hs'
                  rw [HS.out.1] at e
                  injection e with e
                  exact HE.out (by rw [e])
                · exact HQ.out r (by omega) s' hs' e
              case measure => simp [intOf] <;> omega
          · obtain rfl : q = y := by omega
            go_wp2
            go_roundw
            case rel =>
              refine ⟨k + 1, by omega, by go_num, fun r hr s' hs' hm => ?_, HW2.out⟩
              by_cases e2 : r = k
              · subst e2
                obtain ⟨t, ht, e⟩ := List.getElem_of_mem hm
                exact HQ.out t (by rw [HYL.out]; exact ht) s' (by rw [← e]; exact List.getElem?_eq_getElem ht) hs'
              · exact HT.out r (by omega) s' hs' hm
            case measure => simp [intOf] <;> omega
      · obtain rfl : k = x := by omega
        go_wp2
        go_ret
        refine ⟨false, rfl, ⟨fun h => (by cases h), fun ⟨_, s, h1, h2⟩ => ?_⟩, by obtain ⟨d, rfl⟩ := HWR.out; exact HEND.out d⟩
        obtain ⟨t, ht, e⟩ := List.getElem_of_mem h1
        exact absurd h2 (HT.out t (by rw [HXL.out]; exact ht) s (by rw [← e]; exact List.getElem?_eq_getElem ht))
  · have HBS := Lib.hid hbase
    have hb2 : (a.base.toList == b.base.toList) = false := by simpa using hbase
    clear hbase
    go_enter Try.func30, Try.ntmps30
    go_wp2
    go_ret
    rw [← HW.out]
    exact ⟨false, rfl, ⟨fun h => (by cases h), fun h => absurd (by rw [h.1]) HBS.out⟩, HBEL.out⟩
end Go.Proofs.Ytlobiebmaheflaa
