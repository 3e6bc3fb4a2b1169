/- Plain facts of ThreadParts: the conversations part the messages. -/
import Derived.Test.YtlobiebmaheflaaShares
namespace Go.Proofs.Ytlobiebmaheflaa
open Go.RowKit
set_option linter.unusedVariables false

theorem elem_group {L : List Msg} (hL : Asc L) {g : List Int} (hg : g ∈ allOf L) {x : Int} (hx : x ∈ g) : groupOf L x = g ∧ ∃ y, y ∈ L ∧ y.id = x := by
  obtain ⟨m, hm, rfl⟩ := (mem_allOf hL).1 hg
  obtain ⟨y, hy, rfl, hmy⟩ := mem_groupOf.1 hx
  exact ⟨(groupOf_same hL hm hy hmy).symm, y, hy, rfl⟩
theorem all_cons {L : List Msg} (hL : Asc L) {g : List Int} (hg : g ∈ allOf L) : ∃ h r, g = h :: r := by
  obtain ⟨m, hm, rfl⟩ := (mem_allOf hL).1 hg
  cases he : groupOf L m.id with
  | nil => have := groupOf_self hm; rw [he] at this; cases this
  | cons h r => exact ⟨h, r, rfl⟩
theorem ofL_of {L : List Msg} {x h : Int} {r : List Int} (hg : groupOf L x = h :: r) : ofL L x = (h, true) := by unfold ofL; rw [hg]
theorem elem_of {L : List Msg} (hL : Asc L) {h : Int} {r : List Int} (hg : h :: r ∈ allOf L) {x : Int} (hx : x ∈ h :: r) : ofL L x = (h, true) := ofL_of (elem_group hL hg hx).1
theorem all_each_asc {L : List Msg} (hL : Asc L) {g : List Int} (hg : g ∈ allOf L) : g.Pairwise (· < ·) := by
  obtain ⟨m, hm, rfl⟩ := (mem_allOf hL).1 hg
  exact groupOf_asc hL _
theorem elem_bounds {L : List Msg} (hL : Asc L) (hb : ∀ m, m ∈ L → I64 m.id) {g : List Int} (hg : g ∈ allOf L) {x : Int} (hx : x ∈ g) : I64 x := by
  obtain ⟨-, y, hy, rfl⟩ := elem_group hL hg hx
  exact hb y hy
/-- All conversations together hold each message once. -/
theorem all_flat {L : List Msg} (hL : Asc L) : (allOf L).flatten.length = L.length := by
  have hn : (allOf L).flatten.Nodup := by
    rw [List.nodup_iff_pairwise_ne, List.pairwise_flatten]
    refine ⟨fun g hg => (all_each_asc hL hg).imp fun h e => by omega, ?_⟩
    refine (allOf_asc hL).imp_of_mem ?_
    intro a b ha hb hab x hx y hy e
    subst e
    have h1 := (elem_group hL ha hx).1
    have h2 := (elem_group hL hb hy).1
    rw [← h1, h2] at hab
    omega
  have hl : (L.map (·.id)).Nodup := by
    rw [List.nodup_iff_pairwise_ne, List.pairwise_map]
    exact List.Pairwise.imp (fun hab e => by omega) hL
  have h1 := nodup_le' (ll := L.map (·.id)) hn fun x hx => by
    obtain ⟨g, hg, hxg⟩ := List.mem_flatten.1 hx
    obtain ⟨-, y, hy, rfl⟩ := elem_group hL hg hxg
    exact List.mem_map.2 ⟨y, hy, rfl⟩
  have h2 := nodup_le' (ll := (allOf L).flatten) hl fun x hx => by
    obtain ⟨m, hm, rfl⟩ := List.mem_map.1 hx
    exact List.mem_flatten.2 ⟨groupOf L m.id, (mem_allOf hL).2 ⟨m, hm, rfl⟩, groupOf_self hm⟩
  rw [List.length_map] at h1 h2
  omega
theorem ofL_head {L : List Msg} {m : Msg} (hm : m ∈ L) : (ofL L m.id).1 ∈ groupOf L m.id := by
  cases he : groupOf L m.id with
  | nil => have := groupOf_self hm; rw [he] at this; cases this
  | cons h r => rw [ofL_of he]; simp
theorem of_same {L : List Msg} (hL : Asc L) {a b : Msg} (ha : a ∈ L) (hb : b ∈ L) (h : Hangs a b) : (ofL L a.id).1 = (ofL L b.id).1 := by
  have : groupOf L a.id = groupOf L b.id := groupOf_same hL ha hb ⟨a, ha, rfl, Reach.one ⟨ha, hb, h⟩⟩
  unfold ofL
  rw [this]
theorem group_base {L : List Msg} (hL : Asc L) {m x : Msg} (hm : m ∈ L) (hx : x ∈ L) (h : x.id ∈ groupOf L m.id) : x.base = m.base := by
  obtain ⟨m', hm', e, hr⟩ := memb_of_mem hL hx h
  have := hL.inj hm' hm e
  subst this
  exact hr.ind (fun z => z.base = m'.base) rfl fun a b _ h ih => by rw [← h.2.2.1]; exact ih
theorem of_diff {L : List Msg} (hL : Asc L) {a b : Msg} (ha : a ∈ L) (hb : b ∈ L) (h : a.base ≠ b.base) : (ofL L a.id).1 ≠ (ofL L b.id).1 := by
  intro e
  have h1 := ofL_head ha
  have h2 := ofL_head hb
  rw [← e] at h2
  obtain ⟨y, hy, ey, -⟩ := mem_groupOf.1 h1
  rw [← ey] at h1 h2
  exact h ((group_base hL ha hy h1).symm.trans (group_base hL hb hy h2))
theorem Match.len {ds : List Deed} {L : List Msg} (h : Match ds L) (hL : Asc L) : L.length = ds.length := by
  have hl : (L.map (·.id)).Nodup := by
    rw [List.nodup_iff_pairwise_ne, List.pairwise_map]
    exact List.Pairwise.imp (fun hab e => by omega) hL
  have hd : (ds.map (·.id)).Nodup := by
    rw [List.nodup_iff_pairwise_ne, List.pairwise_map]
    exact h.ne
  have h1 := nodup_le' (ll := ds.map (·.id)) hl fun x hx => by
    obtain ⟨m, hm, rfl⟩ := List.mem_map.1 hx
    obtain ⟨a, ha, rfl⟩ := (h.mem m).1 hm
    exact List.mem_map.2 ⟨a, ha, rfl⟩
  have h2 := nodup_le' (ll := L.map (·.id)) hd fun x hx => by
    obtain ⟨a, ha, rfl⟩ := List.mem_map.1 hx
    exact List.mem_map.2 ⟨msgOf a, (h.mem _).2 ⟨a, ha, rfl⟩, rfl⟩
  rw [List.length_map, List.length_map] at h1 h2
  omega
theorem Match.same_of {ds : List Deed} {L : List Msg} (h : Match ds L) (hL : Asc L) {a b : Deed} (ha : a ∈ ds) (hb : b ∈ ds) (hs : Shares a b) (he : a.base = b.base) : (ofL L a.id).1 = (ofL L b.id).1 :=
  of_same hL (a := msgOf a) (b := msgOf b) ((h.mem _).2 ⟨a, ha, rfl⟩) ((h.mem _).2 ⟨b, hb, rfl⟩) ⟨he, hs⟩
theorem Match.diff_of {ds : List Deed} {L : List Msg} (h : Match ds L) (hL : Asc L) {a b : Deed} (ha : a ∈ ds) (hb : b ∈ ds) (he : a.base ≠ b.base) : (ofL L a.id).1 ≠ (ofL L b.id).1 :=
  of_diff hL (a := msgOf a) (b := msgOf b) ((h.mem _).2 ⟨a, ha, rfl⟩) ((h.mem _).2 ⟨b, hb, rfl⟩) he

/-- The cells of a slice of non-empty lists. -/
theorem OwnRows.cells {w : World} {B : Nat} {v : Value} {ll : List (List Int)} (h : OwnRows w B v ll) : ∃ A cap, v = .slice A ll.length cap ∧ ll.length ≤ cap ∧ cap ≤ maxLen ∧
    ∀ k (hk : k < ll.length), ll[k] ≠ [] → ∃ g gx xc, A = some ⟨g, 0, none⟩ ∧ w.cell? ⟨g, k, none⟩ = some (.slice (some ⟨gx, 0, none⟩) ll[k].length xc) ∧ ll[k].length ≤ xc ∧ xc ≤ maxLen ∧ B ≤ g ∧ g < w.heap.size ∧ B ≤ gx ∧ gx < w.heap.size ∧ ∀ t (ht : t < ll[k].length), w.cell? ⟨gx, t, none⟩ = some (.int .i64 ll[k][t]) := by
  obtain ⟨vs, h1, h2, h3⟩ := h
  rcases h1.2 with ⟨rfl, h0⟩ | ⟨g, cap, cur, rfl, hb, hg, q1, q2, q3, q4⟩
  · exact ⟨none, 0, by rw [← h2, h0], by omega, by simp, fun k hk => absurd hk (by omega)⟩
  · refine ⟨_, cap, by rw [h2], by omega, q2, fun k hk hne => ?_⟩
    have hk2 : k < vs.length := by omega
    obtain ⟨hi, -⟩ := h3 k hk2 hk
    have hc := h1.cells (g := g) rfl k _ (List.getElem?_eq_getElem hk2)
    have hpos : 0 < ll[k].length := List.length_pos_iff.2 hne
    obtain ⟨gx, xc, e, -, -⟩ := hi.1.form hpos
    rw [e] at hc hi
    have hlt := hi.1.lt gx rfl
    refine ⟨g, gx, xc, rfl, ?_, ?_, ?_, hb, heap_lt hg, hlt.1, hlt.2, fun t ht => ?_⟩
    · by_cases e0 : k = 0
      · subst e0; simpa [Addr.add] using hc
      · simpa [Addr.add, e0] using hc
    · rcases hi.1.2 with ⟨e, _⟩ | ⟨g', cap', cur', e, _, _, r1, r2, _⟩
      · cases e
      · injection e with _ _ e; subst e; exact r1
    · rcases hi.1.2 with ⟨e, _⟩ | ⟨g', cap', cur', e, _, _, r1, r2, _⟩
      · cases e
      · injection e with _ _ e; subst e; exact r2
    · have := hi.1.cells (g := gx) rfl t (.int .i64 ll[k][t]) (by simp [iv, ht])
      by_cases e0 : t = 0
      · subst e0; simpa [Addr.add] using this
      · simpa [Addr.add, e0] using this
end Go.Proofs.Ytlobiebmaheflaa
