/- Contracts of shares, holds and has. -/
import Derived.Test.YtlobiebmaheflaaThere
namespace Go.Proofs.Ytlobiebmaheflaa
open Go.RowKit
set_option linter.unusedVariables false

set_option maxRecDepth 100000 in
/-- append of the references to a row of one string that has just been made. -/
theorem wpList_names {ops : Array Oper} {rest : List Oper} {o : Oper} {a : Act} {W : World} {Q : Exit → Act → World → Prop} {own : ByteArray} {RA : Option Addr} {rn rc : Nat} {refs : List ByteArray} (hr : RefsIn W W.heap.size RA rn rc refs) (hrn : rn ≤ 1000) (hgd : o.guard = none) (s x : Operand)
    (ho : o.op = .call { callee := .builtin .append, args := #[s, x], argTypes := #[32, 32] }) (hs : a.eval s = .slice (some ⟨W.heap.size, 0, none⟩) 1 1) (hx : a.eval x = .slice RA rn rc)
    (h : ∀ g n cap w', n = rn + 1 → w'.ownsRow W.heap.size 9 1 (.slice (some ⟨g, 0, none⟩) n cap) n ((own :: refs).map Value.string) → Below W.heap.size W w' → n ≤ cap → cap ≤ maxLen → wpList Try.prog ops Q rest (a.put o.dst (.slice (some ⟨g, 0, none⟩) n cap)) w') :
    wpList Try.prog ops Q (o :: rest) a (W.alloc (.cells #[.string own] 9)) := by
  obtain ⟨i0, hi, hz0, hz1, hz2⟩ := info_parts str_info
  have hown : (W.alloc (.cells #[.string own] 9)).ownsRow W.heap.size 9 1 (.slice (some ⟨W.heap.size, 0, none⟩) 1 1) 1 [.string own] := ownsRow_one' (Nat.le_refl _) (MapKept.heap_alloc W _).1
  have hbel : Below W.heap.size W (W.alloc (.cells #[.string own] 9)) := (Below.refl _ _).alloc (Nat.le_refl _) _
  obtain ⟨hst, hrc, hrm, hnil⟩ := hr
  cases RA with
  | none =>
    obtain ⟨hl0, -, hrun⟩ := hst
    have hrefs : refs = [] := by
      rcases hrun with h1 | ⟨_, h1, _⟩
      · exact List.map_eq_nil_iff.1 h1
      · cases h1
    have hr0 : rn = 0 := by rw [hl0, hrefs]; rfl
    have hc0 := hnil rfl
    subst hr0
    subst hc0
    subst hrefs
    exact wpList_append_own_none hgd s x 32 ho W.heap.size 9 i0 1 Try.underlying32 hi _ _ _ hs hown hx (h _ 1 1 _ rfl hown hbel (Nat.le_refl _) (by simp only [maxLen]; omega))
  | some ad =>
    have hcells : ∀ j u, (refs.map Value.string)[j]? = some u → (W.alloc (.cells #[.string own] 9)).cell? (ad.add j) = some u := fun j u hu => by
      rcases hst.2.2 with h1 | ⟨ad', h1, hb, h2⟩
      · rw [h1] at hu; simp at hu
      · injection h1 with h1
        subst h1
        rw [hbel.cell (by rw [add_block]; exact hb)]
        exact h2 j u hu
    refine wpList_append_own_at _ hgd s x 32 ho W.heap.size 9 i0 (.string ⟨#[]⟩) 1 16 Try.underlying32 hi hz0 hz1 hz2 rfl (by omega) _ 1 _ hs hown ad rn rc (refs.map Value.string) hx (by rw [List.length_map, ← hst.1]; omega) hcells (by intro u hu; obtain ⟨x, -, rfl⟩ := List.mem_map.1 hu; rfl) (by simp only [maxLen]; omega) (by omega) (by simp) ?_
    intro v' w' h1 h2 _ h4
    obtain ⟨g, cap, rfl, -, -⟩ := h1.form (by omega)
    have hc : 1 + rn ≤ cap ∧ cap ≤ maxLen := by
      rcases h1.2 with ⟨e, _⟩ | ⟨g', cap', cur, e, _, _, q1, q2, _⟩
      · cases e
      · injection e with _ _ e; subst e; exact ⟨q1, q2⟩
    exact h g _ cap w' (Nat.add_comm _ _) (by rw [List.map_cons]; exact h1) (hbel.grown h2 (by simp) (fun k e => by have : W.heap.size = k := Option.some.inj e; omega)) hc.1 hc.2

def Shares (a b : Deed) : Prop := ∃ x, x ∈ idsOf a.own a.refs ∧ x ∈ idsOf b.own b.refs
def SharesPost (w : World) (a b : Deed) (e : Ending) (w' : World) : Prop := ∃ r : Bool, e = .returned (.bool r) ∧ (r = true ↔ Shares a b) ∧ Below w.heap.size w w'
theorem mem_idsOf {own : ByteArray} {refs : List ByteArray} {x : ByteArray} : x ∈ idsOf own refs ↔ x ∈ own :: refs ∧ x.toList ≠ [] := by
  unfold idsOf
  rw [List.mem_filter, decide_eq_true_iff]
theorem str_at {w : World} {B g n cap : Nat} {l : List ByteArray} (h : w.ownsRow B 9 1 (.slice (some ⟨g, 0, none⟩) n cap) n (l.map Value.string)) {j : Nat} (hj : j < l.length) : w.cell? ⟨g, j, none⟩ = some (.string l[j]) := by
  have := h.cells (g := g) rfl j (.string l[j]) (by rw [List.getElem?_map, List.getElem?_eq_getElem hj]; rfl)
  by_cases e : j = 0
  · subst e; simpa [Addr.add] using this
  · simpa [Addr.add, e] using this

set_option maxRecDepth 100000 in
set_option maxHeartbeats 2000000 in
theorem shares_any (a b : Deed) (RA SA : Option Addr) (rn rc sn sc : Nat) (w : World) (ha : RefsIn w w.heap.size RA rn rc a.refs) (hb : RefsIn w w.heap.size SA sn sc b.refs) (h8 : a.refs.length ≤ 8) (h9 : b.refs.length ≤ 8) :
    Calls Try.prog 21 #[.agg #[.int .i64 a.do_, .int .i64 a.id, .string a.own, .slice RA rn rc, .string a.base], .agg #[.int .i64 b.do_, .int .i64 b.id, .string b.own, .slice SA sn sc, .string b.base]] w (SharesPost w a b) := by
  obtain ⟨ad, ai, ao, ar, ab⟩ := a
  obtain ⟨bd, bi, bo, br, bb⟩ := b
  dsimp only at *
  have hrn : rn ≤ 8 := by rw [ha.1.1]; exact h8
  have hsn : sn ≤ 8 := by rw [hb.1.1]; exact h9
  obtain ⟨W, hW⟩ : ∃ W, W = (w.alloc (.cells #[.int .i64 ad, .int .i64 ai, .string ao, .slice RA rn rc, .string ab] 34)).alloc (.cells #[.int .i64 bd, .int .i64 bi, .string bo, .slice SA sn sc, .string bb] 34) := ⟨_, rfl⟩
  have hbW : Below w.heap.size w W := by rw [hW]; exact ((Below.refl _ _).alloc (Nat.le_refl _) _).alloc (by simp) _
  have k1 := MapKept.heap_alloc w (.cells #[.int .i64 ad, .int .i64 ai, .string ao, .slice RA rn rc, .string ab] 34)
  have k2 := MapKept.heap_alloc (w.alloc (.cells #[.int .i64 ad, .int .i64 ai, .string ao, .slice RA rn rc, .string ab] 34)) (.cells #[.int .i64 bd, .int .i64 bi, .string bo, .slice SA sn sc, .string bb] 34)
  have s1 : (w.alloc (.cells #[.int .i64 ad, .int .i64 ai, .string ao, .slice RA rn rc, .string ab] 34)).heap.size = w.heap.size + 1 := by simp
  rw [s1] at k2
  have b1 : W.heap[w.heap.size]? = some (.cells #[.int .i64 ad, .int .i64 ai, .string ao, .slice RA rn rc, .string ab] 34 (0, 0)) := by rw [hW, k2.2 _ (by omega)]; exact k1.1
  have b2 : W.heap[w.heap.size + 1]? = some (.cells #[.int .i64 bd, .int .i64 bi, .string bo, .slice SA sn sc, .string bb] 34 (0, 0)) := by rw [hW]; exact k2.1
  have hWs : W.heap.size = w.heap.size + 2 := by rw [hW]; simp
  have ca2 : W.cell? ⟨w.heap.size, 2, none⟩ = some (.string ao) := by simp [World.cell?, b1]
  have ca3 : W.cell? ⟨w.heap.size, 3, none⟩ = some (.slice RA rn rc) := by simp [World.cell?, b1]
  have HA := Lib.hid ((ha.below hbW).more hbW.size)
  have HB := Lib.hid (hb.below hbW)
  have HBW := Lib.hid hbW
  have HW := Lib.hid hW
  have HB2 := Lib.hid b2
  have HWS := Lib.hid hWs
  clear k1 k2 s1 b1 b2 ha hb hbW hW hWs
  go_enter Try.func21, Try.ntmps21
  go_wp2_with (first | (rw [← HW.out]; at_builtin; refine wpList_names (refs := ar) HA.out (by omega) rfl (.tmp 11) (.tmp 13) rfl (by rw [HWS.out]; rfl) rfl ?_; intro g1 n1 cap1 w1 hn1 ho1 hb1 hc1 hc1'; have hlt1 : w.heap.size + 1 < w1.heap.size := (by have := hb1.size; have := HWS.out; omega); have HN1 := Lib.hid hn1; have HO1 := Lib.hid ho1; have HB1 := Lib.hid hb1; have cb2 : w1.cell? ⟨w.heap.size + 1, 2, none⟩ = some (.string bo) := ((hb1.cell (p := ⟨w.heap.size + 1, 2, none⟩) (by rw [HWS.out]; show w.heap.size + 1 < _; omega)).trans (by simp [World.cell?, HB2.out])); have cb3 : w1.cell? ⟨w.heap.size + 1, 3, none⟩ = some (.slice SA sn sc) := ((hb1.cell (p := ⟨w.heap.size + 1, 3, none⟩) (by rw [HWS.out]; show w.heap.size + 1 < _; omega)).trans (by simp [World.cell?, HB2.out])); have HR2 := Lib.hid ((HB.out.below (hb1.mono HBW.out.size)).more (Nat.le_trans HBW.out.size hb1.size)); clear hn1 ho1 hb1) | (at_builtin; refine wpList_names (refs := br) HR2.out (by omega) rfl (.tmp 17) (.tmp 19) rfl rfl rfl ?_; intro g2 n2 cap2 w2 hn2 ho2 hb2 hc2 hc2'; have HN2 := Lib.hid hn2; have HO2 := Lib.hid ho2; have HB2' := Lib.hid hb2; clear hn2 ho2 hb2))
  have HW1 := Lib.hid (HBW.out.trans (HB1.out.mono HBW.out.size))
  have hb2 := HW1.out.trans (HB2'.out.mono HW1.out.size)
  have hx : w2.ownsRow W.heap.size 9 1 (.slice (some ⟨g1, 0, none⟩) n1 cap1) n1 ((ao :: ar).map Value.string) := ownsRow_block HO1.out fun b e => HB2'.out.block b (HO1.out.lt b e).2
  have hlx : (ao :: ar).length = n1 := by rw [List.length_cons, ← HA.out.1.1, HN1.out]
  have hly : (bo :: br).length = n2 := by rw [List.length_cons, ← HR2.out.1.1, HN2.out]
  have hn1l : n1 ≤ 9 := by have := HN1.out; omega
  have hn2l : n2 ≤ 9 := by have := HN2.out; omega
  have HX := Lib.hid hx
  have HBB := Lib.hid hb2
  have HLX := Lib.hid hlx
  have HLY := Lib.hid hly
  clear hb2 hx hlx hly ca2 ca3 cb2 cb3
  go_wp2
  go_loopw [7] (fun i wr => ∃ k : Nat, k ≤ n1 ∧ i = .int .i64 (k : Int) ∧ Hid (∀ t (h : t < (ao :: ar).length), t < k → (ao :: ar)[t].toList ≠ [] → (ao :: ar)[t] ∉ bo :: br) ∧ Hid (∃ d, wr = w2.drewN d)) (fun i _ => n1 - (intOf i).toNat)
  case atStart => exact ⟨0, Nat.zero_le _, rfl, fun t _ ht => absurd ht (by omega), 0, rfl⟩
  case round =>
    obtain ⟨k, hk, rfl, HT, HWR⟩ := hrel
    obtain ⟨wo, hwo⟩ : ∃ x, x = wr := ⟨wr, rfl⟩
    subst hwo
    by_cases hlt : k < n1
    · have hk2 : (k : Int) < n1 := by omega
      go_wp2
      go_loopw [8] (fun j wr' => ∃ q : Nat, q ≤ n2 ∧ j = .int .i64 (q : Int) ∧ Hid (∀ t (h : t < (bo :: br).length) (h2 : k < (ao :: ar).length), t < q → (ao :: ar)[k].toList ≠ [] → (ao :: ar)[k] ≠ (bo :: br)[t]) ∧ Hid (∃ d, wr' = w2.drewN d)) (fun j _ => n2 - (intOf j).toNat)
      case atStart => exact ⟨0, Nat.zero_le _, rfl, fun t _ _ ht => absurd ht (by omega), HWR.out⟩
      case round =>
        obtain ⟨q, hq, rfl, HQ, HW2⟩ := hrel
        by_cases hql : q < n2
        · have hkl : k < (ao :: ar).length := by rw [HLX.out]; exact hlt
          have hqll : q < (bo :: br).length := by rw [HLY.out]; exact hql
          obtain ⟨s, hs⟩ : ∃ s, (ao :: ar)[k] = s := ⟨_, rfl⟩
          obtain ⟨t, ht⟩ : ∃ t, (bo :: br)[q] = t := ⟨_, rfl⟩
          have hca : wr.cell? ⟨g1, k, none⟩ = some (.string s) := by obtain ⟨d, rfl⟩ := HW2.out; rw [← hs]; exact str_at HX.out hkl
          have hcb : wr.cell? ⟨g2, q, none⟩ = some (.string t) := by obtain ⟨d, rfl⟩ := HW2.out; rw [← ht]; exact str_at HO2.out hqll
          have hq2 : (q : Int) < n2 := by omega
          have HS := Lib.hid hs
          have HTT := Lib.hid ht
          clear hs ht
          by_cases hs0 : s.toList = []
          · have HS0 := Lib.hid hs0
            have hs1 : s.toList.isEmpty = true := by rw [hs0]; rfl
            clear hs0
            go_wp2
            go_quiet (fail)
            clear hs1
            go_wp2
            go_roundw
            case rel =>
              exact ⟨q + 1, by omega, by go_num, fun r hr hk2 hrq hne => absurd (by rw [HS.out]; exact HS0.out) hne, by obtain ⟨d, rfl⟩ := HW2.out; exact ⟨_, World.drewN_drewN w2 d nq⟩⟩
            case measure => simp [intOf] <;> omega
          · have HS0 := Lib.hid hs0
            have hs1 : s.toList.isEmpty = false := by cases hxx : s.toList with | nil => exact absurd hxx hs0 | cons a r => rfl
            clear hs0
            by_cases he : s.toList = t.toList
            · have HE := Lib.hid he
              have hs2 : t.toList.isEmpty = false := by rw [← he]; exact hs1
              go_wp2
              go_quiet (fail)
              clear he hs1 hs2
              go_wp2
              go_ret
              obtain ⟨d, rfl⟩ := HW2.out
              refine ⟨true, rfl, ⟨fun _ => ⟨s, mem_idsOf.2 ⟨by rw [← HS.out]; exact List.getElem_mem hkl, HS0.out⟩, mem_idsOf.2 ⟨by rw [(bytes_inj _ _).1 HE.out, ← HTT.out]; exact List.getElem_mem hqll, HS0.out⟩⟩, fun _ => rfl⟩, ?_⟩
              exact ⟨HBB.out.os, HBB.out.tape, HBB.out.output, HBB.out.size, HBB.out.block⟩
            · have HE := Lib.hid he
              have he2 : (s.toList == t.toList) = false := by simpa using he
              clear he
              go_wp2
              go_quiet (fail)
              clear he2 hs1
              go_wp2
              go_roundw
              case rel =>
                refine ⟨q + 1, by omega, by go_num, fun r hr hk2 hrq hne => ?_, by obtain ⟨d, rfl⟩ := HW2.out; exact ⟨_, World.drewN_drewN w2 d nq⟩⟩
                by_cases e2 : r = q
                · subst e2
                  rw [HS.out, HTT.out]
                  intro e
                  exact HE.out (by rw [e])
                · exact HQ.out r hr hk2 (by omega) hne
              case measure => simp [intOf] <;> omega
        · obtain rfl : q = n2 := by omega
          go_wp2
          go_roundw
          case rel =>
            refine ⟨k + 1, by omega, by go_num, fun r hr hrk hne hm => ?_, HW2.out⟩
            by_cases e2 : r = k
            · subst e2
              obtain ⟨t, ht, e⟩ := List.getElem_of_mem hm
              exact HQ.out t ht hr (by rw [← HLY.out]; exact ht) hne e.symm
            · exact HT.out r hr (by omega) hne hm
          case measure => simp [intOf] <;> omega
    · obtain rfl : k = n1 := by omega
      go_wp2
      go_ret
      refine ⟨false, rfl, ⟨fun h => (by cases h), fun ⟨s, h1, h2⟩ => ?_⟩, ?_⟩
      · obtain ⟨t, ht, e⟩ := List.getElem_of_mem (mem_idsOf.1 h1).1
        have := HT.out t ht (by rw [← HLX.out]; exact ht) (by rw [e]; exact (mem_idsOf.1 h1).2)
        rw [e] at this
        exact absurd (mem_idsOf.1 h2).1 this
      · obtain ⟨d, rfl⟩ := HWR.out
        exact ⟨HBB.out.os, HBB.out.tape, HBB.out.output, HBB.out.size, HBB.out.block⟩
end Go.Proofs.Ytlobiebmaheflaa
