/- Sets of threads behind a call's beginning, alone and in pairs; the plain facts of the law's example. -/
import Derived.Test.YtlobiebmaheflaaDeed
namespace Go.Proofs.Ytlobiebmaheflaa
open Go.RowKit
set_option linter.unusedVariables false

/-- A set of threads that was made behind w0. -/
structure One (w0 w : World) (tag : Nat → Tag) (hd : Nat) (L : List Msg) (c : Nat) : Prop where
  th : Th w tag hd L c
  old : ∀ b, b < w0.heap.size → tag b = tOut
  bel : Below w0.heap.size w0 w
section
variable {w0 w w' : World} {tag tag' tag2 : Nat → Tag} {hd hd' : Nat} {L L' L2 : List Msg} {c c' c2 : Nat}
theorem Below.ofOff (hb : Below w0.heap.size w0 w) (hO : Off (Mut tag) w w') (hold : ∀ b, b < w0.heap.size → tag b = tOut) : Below w0.heap.size w0 w' :=
  ⟨hO.os.trans hb.os, hO.tape.trans hb.tape, hO.output.trans hb.output, Nat.le_trans hb.size hO.size, fun k hk => (hO.block k (Nat.lt_of_lt_of_le hk hb.size) (fun h => h.1 (hold k hk))).trans (hb.block k hk)⟩
theorem One.turn (h : One w0 w tag hd L c) (hT : Th w' tag2 hd L2 c2) (hO : Off (Mut tag) w w') (hG : Grows w tag tag2) : One w0 w' tag2 hd L2 c2 :=
  ⟨hT, fun b hb => (hG b (Nat.lt_of_lt_of_le hb h.bel.size)).1 (h.old b hb), Below.ofOff h.bel hO h.old⟩
theorem One.stay (h : One w0 w tag hd L c) (hT : Th w' tag hd L2 c2) (hO : Off (Mut tag) w w') : One w0 w' tag hd L2 c2 := h.turn hT hO (Grows.refl _ _)
theorem One.below (h : One w0 w tag hd L c) (hb : Below w.heap.size w w') : One w0 w' tag hd L c :=
  ⟨h.th.off (.of_below hb (F := fun b => w.heap.size ≤ b) fun _ _ h => h) h.th.fresh, h.old, h.bel.trans (hb.mono h.bel.size)⟩
theorem One.new {e : Ending} (hb : Below w0.heap.size w0 w) (h : NewPost w e w') : One w0 w' (newTag w.heap.size) (w.heap.size + 2) [] 0 := by
  refine ⟨th_new h, fun b hl => ?_, ?_⟩
  · have := hb.size
    unfold newTag; rw [if_neg (by omega), if_neg (by omega), if_neg (by omega)]
  · have hO := h.2.2
    exact hb.trans ⟨hO.os, hO.tape, hO.output, hO.size, fun k hk => hO.block k (Nat.lt_of_lt_of_le hk hb.size) (fun h => h)⟩

/-- Two sets that share no memory. -/
structure Pair (w0 w : World) (tag : Nat → Tag) (hd : Nat) (L : List Msg) (c : Nat) (tag' : Nat → Tag) (hd' : Nat) (L' : List Msg) (c' : Nat) : Prop where
  a : One w0 w tag hd L c
  b : One w0 w tag' hd' L' c'
  dis : ∀ x, tag x = tOut ∨ tag' x = tOut
theorem Pair.swap (h : Pair w0 w tag hd L c tag' hd' L' c') : Pair w0 w tag' hd' L' c' tag hd L c := ⟨h.b, h.a, fun x => (h.dis x).symm⟩
theorem Pair.turn (h : Pair w0 w tag hd L c tag' hd' L' c') (hT : Th w' tag2 hd L2 c2) (hO : Off (Mut tag) w w') (hG : Grows w tag tag2) : Pair w0 w' tag2 hd L2 c2 tag' hd' L' c' := by
  refine ⟨h.a.turn hT hO hG, ⟨h.b.th.off hO fun b hb => (h.dis b).resolve_left hb.1, h.b.old, (h.a.turn hT hO hG).bel⟩, fun x => ?_⟩
  by_cases hx : x < w.heap.size
  · exact (h.dis x).imp (fun e => (hG x hx).1 e) id
  · exact .inr (h.b.th.fresh x (by omega))
theorem Pair.turn' (h : Pair w0 w tag hd L c tag' hd' L' c') (hT : Th w' tag2 hd' L2 c2) (hO : Off (Mut tag') w w') (hG : Grows w tag' tag2) : Pair w0 w' tag hd L c tag2 hd' L2 c2 := (h.swap.turn hT hO hG).swap
theorem Pair.stay (h : Pair w0 w tag hd L c tag' hd' L' c') (hT : Th w' tag hd L2 c2) (hO : Off (Mut tag) w w') : Pair w0 w' tag hd L2 c2 tag' hd' L' c' := h.turn hT hO (Grows.refl _ _)
theorem Pair.stay' (h : Pair w0 w tag hd L c tag' hd' L' c') (hT : Th w' tag' hd' L2 c2) (hO : Off (Mut tag') w w') : Pair w0 w' tag hd L c tag' hd' L2 c2 := h.turn' hT hO (Grows.refl _ _)
theorem Pair.below (h : Pair w0 w tag hd L c tag' hd' L' c') (hb : Below w.heap.size w w') : Pair w0 w' tag hd L c tag' hd' L' c' := ⟨h.a.below hb, h.b.below hb, h.dis⟩
/-- A set beside a copy of it. -/
theorem One.copied (h : One w0 w tag hd L c) (hT : Th w' tag' hd' L' c') (hold : ∀ b, b < w.heap.size → tag' b = tOut) (hb : Below w.heap.size w w') : Pair w0 w' tag hd L c tag' hd' L' c' := by
  refine ⟨h.below hb, ⟨hT, fun b hl => hold b (Nat.lt_of_lt_of_le hl h.bel.size), (h.below hb).bel⟩, fun x => ?_⟩
  by_cases hx : x < w.heap.size
  · exact .inr (hold x hx)
  · exact .inl (h.th.fresh x (by omega))
theorem One.new' {e : Ending} (h : One w0 w tag hd L c) (hN : NewPost w e w') : Pair w0 w' tag hd L c (newTag w.heap.size) (w.heap.size + 2) [] 0 := by
  have hO := hN.2.2
  refine h.copied (th_new hN) (fun b hl => ?_) ⟨hO.os, hO.tape, hO.output, hO.size, fun k hk => hO.block k hk (fun h => h)⟩
  unfold newTag; rw [if_neg (by omega), if_neg (by omega), if_neg (by omega)]
end

theorem strs_new (w : World) (l : List ByteArray) (h : ∀ s, s ∈ l → Fits s) : Strs (w.alloc (.cells (l.map Value.string).toArray 9)) (w.alloc (.cells (l.map Value.string).toArray 9)).heap.size (some ⟨w.heap.size, 0, none⟩) l.length l :=
  ⟨rfl, h, .inr ⟨_, rfl, by simp, fun j u hu => World.news_of_block (MapKept.heap_alloc w _).1 j u (by simpa using hu)⟩⟩
theorem strs_nil (w : World) (B : Nat) : Strs w B none 0 [] := ⟨rfl, (fun s h => by cases h), .inl rfl⟩

/-- Where one message of each base subject is linked to all others of that subject, the conversations are the base subjects. -/
theorem groupOf_base {L : List Msg} (hL : Asc L) (hc : ∀ a, a ∈ L → ∃ k, k ∈ L ∧ k.base = a.base ∧ ∀ x, x ∈ L → x.base = a.base → Hangs k x) {m : Msg} (hm : m ∈ L) : groupOf L m.id = (L.filter fun x => decide (x.base = m.base)).map (·.id) := by
  symm
  refine groupOf_eq hL ?_ fun j => ?_
  · rw [List.pairwise_map]; exact (List.Pairwise.filter _ hL)
  · rw [List.mem_map]
    constructor
    · rintro ⟨x, hx, rfl⟩
      obtain ⟨hx, hb⟩ := List.mem_filter.1 hx
      have hb := of_decide_eq_true hb
      obtain ⟨k, hk, hkb, hkx⟩ := hc m hm
      exact ⟨x, hx, rfl, m, hm, rfl, (Reach.one ⟨hm, hk, (hkx m hm rfl).symm⟩).trans (Reach.one ⟨hk, hx, hkx x hx hb⟩)⟩
    · rintro ⟨x, hx, rfl, m', hm', e, hr⟩
      have := hL.inj hm' hm e
      subst this
      exact ⟨x, List.mem_filter.2 ⟨hx, decide_eq_true (hr.ind (fun z => z.base = m'.base) rfl fun a b _ h ih => by rw [← h.2.2.1]; exact ih)⟩, rfl⟩
/-- Where no two messages are linked, each is a conversation of its own. -/
theorem groupOf_lone {L : List Msg} (hL : Asc L) (hc : ∀ a b, a ∈ L → b ∈ L → Hangs a b → a = b) {m : Msg} (hm : m ∈ L) : groupOf L m.id = [m.id] := by
  symm
  refine groupOf_eq hL (by simp) fun j => ?_
  rw [List.mem_singleton]
  constructor
  · rintro rfl; exact ⟨m, hm, rfl, m, hm, rfl, .refl _⟩
  · rintro ⟨x, hx, rfl, m', hm', e, hr⟩
    have := hL.inj hm' hm e
    subst this
    have := hr.ind (fun z => z = m') rfl fun a b _ h ih => by rw [← hc a b h.1 h.2.1 h.2.2]; exact ih
    rw [this]
theorem allOf_lone {L : List Msg} (hL : Asc L) (hc : ∀ a b, a ∈ L → b ∈ L → Hangs a b → a = b) : allOf L = L.map fun m => [m.id] := by
  unfold allOf
  rw [List.filter_eq_self.2 fun x hx => by rw [groupOf_lone hL hc hx]; simp]
  exact List.map_congr_left fun x hx => groupOf_lone hL hc hx

def sa : ByteArray := ⟨#[97]⟩
def sb : ByteArray := ⟨#[98]⟩
def sc : ByteArray := ⟨#[99]⟩
def sx : ByteArray := ⟨#[120]⟩
def sy : ByteArray := ⟨#[121]⟩
def se : ByteArray := ⟨#[]⟩
theorem se_nil : se.toList = [] := by unfold se; decide +kernel
theorem notE (x : ByteArray) (h : x ≠ se) : x.toList ≠ [] := fun e => h ((bytes_inj x se).1 (e.trans se_nil.symm))
def x1 : Msg := ⟨1, [sa], sx⟩
def x2 : Msg := ⟨2, [sb], sx⟩
def x3 : Msg := ⟨3, [sc, sa, sb], sx⟩
def x4 : Msg := ⟨4, [sa], sy⟩
theorem ids1 : idsOf sa [] = [sa] := by unfold idsOf; rw [List.filter_cons, if_pos (decide_eq_true (notE sa (by decide)))]; rfl
theorem ids2 : idsOf se [sb] = [sb] := by
  unfold idsOf
  rw [List.filter_cons, if_neg (by simp [se_nil]), List.filter_cons, if_pos (decide_eq_true (notE sb (by decide)))]; rfl
theorem ids3 : idsOf sc [sa, sb, se] = [sc, sa, sb] := by
  unfold idsOf
  rw [List.filter_cons, if_pos (decide_eq_true (notE sc (by decide))), List.filter_cons, if_pos (decide_eq_true (notE sa (by decide))), List.filter_cons, if_pos (decide_eq_true (notE sb (by decide))), List.filter_cons, if_neg (by simp [se_nil])]; rfl
theorem add0 {L : List Msg} {m : Msg} (h1 : 1 ≤ m.id) (h2 : ∀ x, x ∈ L → x.id ≠ m.id) : addErr L m.id = 0 ∧ addL L m = ins m L := by
  have : addErr L m.id = 0 := by unfold addErr; rw [if_neg (by omega), if_neg (fun ⟨x, hx, e⟩ => h2 x hx e)]
  exact ⟨this, by unfold addL; rw [if_pos this]⟩
theorem add1 : addErr [] 1 = 0 ∧ addL [] ⟨1, idsOf sa [], sx⟩ = [x1] := by
  rw [ids1]
  exact ⟨(add0 (L := []) (m := x1) (by decide) (by simp)).1, (add0 (L := []) (m := x1) (by decide) (by simp)).2⟩
theorem add2 : addErr [x1] 2 = 0 ∧ addL [x1] ⟨2, idsOf se [sb], sx⟩ = [x1, x2] := by
  rw [ids2]
  have h := add0 (L := [x1]) (m := x2) (by decide) (by simp [x1, x2])
  exact ⟨h.1, h.2.trans (by simp [ins, x1, x2])⟩
theorem add3 : addErr [x1, x2] 3 = 0 ∧ addL [x1, x2] ⟨3, idsOf sc [sa, sb, se], sx⟩ = [x1, x2, x3] := by
  rw [ids3]
  have h := add0 (L := [x1, x2]) (m := x3) (by decide) (by simp [x1, x2, x3])
  exact ⟨h.1, h.2.trans (by simp [ins, x1, x2, x3])⟩
theorem add4 : addErr [x1, x2, x3] 4 = 0 ∧ addL [x1, x2, x3] ⟨4, idsOf sa [], sy⟩ = [x1, x2, x3, x4] := by
  rw [ids1]
  have h := add0 (L := [x1, x2, x3]) (m := x4) (by decide) (by simp [x1, x2, x3, x4])
  exact ⟨h.1, h.2.trans (by simp [ins, x1, x2, x3, x4])⟩
theorem add5 (l : List ByteArray) (b : ByteArray) : addErr [x1, x2, x3, x4] 3 = 4 ∧ addL [x1, x2, x3, x4] ⟨3, l, b⟩ = [x1, x2, x3, x4] := by
  have h : addErr [x1, x2, x3, x4] 3 = 4 := by unfold addErr; rw [if_neg (by omega), if_pos ⟨x3, by simp, rfl⟩]
  exact ⟨h, by unfold addL; rw [if_neg (by simp [h])]⟩
theorem add6 (l : List ByteArray) (b : ByteArray) : addErr [x1, x2, x3, x4] 0 = 1 ∧ addL [x1, x2, x3, x4] ⟨0, l, b⟩ = [x1, x2, x3, x4] := by
  have h : addErr [x1, x2, x3, x4] 0 = 1 := by unfold addErr; rw [if_pos (by omega)]
  exact ⟨h, by unfold addL; rw [if_neg (by simp [h])]⟩
theorem asc4 : Asc [x1, x2, x3, x4] := by simp [Asc, x1, x2, x3, x4]
theorem del3 : del 3 [x1, x2, x3, x4] = [x1, x2, x4] := by simp [del, x1, x2, x3, x4]
theorem del3' : del 3 [x1, x2, x4] = [x1, x2, x4] := by simp [del, x1, x2, x4]
theorem sab : sa ≠ sb := by decide
theorem sxy : sx ≠ sy := by decide
theorem lone3 : ∀ a b, a ∈ [x1, x2, x4] → b ∈ [x1, x2, x4] → Hangs a b → a = b := by
  have h1 := sab
  have h2 := sxy
  intro a b ha hb h
  simp only [List.mem_cons, List.not_mem_nil, or_false] at ha hb
  rcases ha with rfl | rfl | rfl <;> rcases hb with rfl | rfl | rfl <;> first | rfl | (exfalso; simp [Hangs, x1, x2, x4, h1, h2, h1.symm, h2.symm] at h)
theorem all2 : allOf [x1, x2] = [[1], [2]] := allOf_lone (by simp [Asc, x1, x2]) fun a b ha hb => lone3 a b (by simp only [List.mem_cons, List.not_mem_nil, or_false] at ha ⊢; rcases ha with h | h <;> simp [h]) (by simp only [List.mem_cons, List.not_mem_nil, or_false] at hb ⊢; rcases hb with h | h <;> simp [h])
theorem all3 : allOf [x1, x2, x4] = [[1], [2], [4]] := allOf_lone (by simp [Asc, x1, x2, x4]) lone3
theorem hub4 : ∀ a, a ∈ [x1, x2, x3, x4] → ∃ k, k ∈ [x1, x2, x3, x4] ∧ k.base = a.base ∧ ∀ x, x ∈ [x1, x2, x3, x4] → x.base = a.base → Hangs k x := by
  have h2 := sxy
  have hx : ∀ x, x ∈ [x1, x2, x3, x4] → x.base = sx → Hangs x3 x := by
    intro x hx hb
    simp only [List.mem_cons, List.not_mem_nil, or_false] at hx
    rcases hx with rfl | rfl | rfl | rfl
    · exact ⟨rfl, sa, by simp [x3], by simp [x1]⟩
    · exact ⟨rfl, sb, by simp [x3], by simp [x2]⟩
    · exact ⟨rfl, sa, by simp [x3], by simp [x3]⟩
    · exact absurd hb.symm h2
  have hy : ∀ x, x ∈ [x1, x2, x3, x4] → x.base = sy → Hangs x4 x := by
    intro x hx hb
    simp only [List.mem_cons, List.not_mem_nil, or_false] at hx
    rcases hx with rfl | rfl | rfl | rfl
    · exact absurd hb h2
    · exact absurd hb h2
    · exact absurd hb h2
    · exact ⟨rfl, sa, by simp [x4], by simp [x4]⟩
  intro a ha
  simp only [List.mem_cons, List.not_mem_nil, or_false] at ha
  rcases ha with rfl | rfl | rfl | rfl
  · exact ⟨x3, by simp, rfl, hx⟩
  · exact ⟨x3, by simp, rfl, hx⟩
  · exact ⟨x3, by simp, rfl, hx⟩
  · exact ⟨x4, by simp, rfl, hy⟩
theorem grp4x {m : Msg} (hm : m ∈ [x1, x2, x3, x4]) (hb : m.base = sx) : groupOf [x1, x2, x3, x4] m.id = [1, 2, 3] := by
  rw [groupOf_base asc4 hub4 hm, hb]
  have h2 := sxy
  simp [x1, x2, x3, x4, h2.symm]
theorem grp4y : groupOf [x1, x2, x3, x4] 4 = [4] := by
  have := groupOf_base asc4 hub4 (m := x4) (by simp)
  rw [show x4.id = 4 from rfl] at this
  rw [this]
  have h2 := sxy
  simp [x1, x2, x3, x4, h2]
theorem grp2 : groupOf [x1, x2, x3, x4] 2 = [1, 2, 3] := grp4x (m := x2) (by simp) rfl
theorem of3 : ofL [x1, x2, x3, x4] 3 = (1, true) := by unfold ofL; rw [show groupOf [x1, x2, x3, x4] 3 = [1, 2, 3] from grp4x (m := x3) (by simp) rfl]
theorem all4 : allOf [x1, x2, x3, x4] = [[1, 2, 3], [4]] := by
  have e1 : groupOf [x1, x2, x3, x4] 1 = [1, 2, 3] := grp4x (m := x1) (by simp) rfl
  have e2 : groupOf [x1, x2, x3, x4] 2 = [1, 2, 3] := grp4x (m := x2) (by simp) rfl
  have e3 : groupOf [x1, x2, x3, x4] 3 = [1, 2, 3] := grp4x (m := x3) (by simp) rfl
  have e4 : groupOf [x1, x2, x3, x4] 4 = [4] := grp4y
  have i1 : x1.id = 1 := rfl
  have i2 : x2.id = 2 := rfl
  have i3 : x3.id = 3 := rfl
  have i4 : x4.id = 4 := rfl
  unfold allOf
  rw [List.filter_cons, if_pos (by rw [i1, e1]; rfl), List.filter_cons, if_neg (by rw [i2, e2]; decide), List.filter_cons, if_neg (by rw [i3, e3]; decide), List.filter_cons, if_pos (by rw [i4, e4]; rfl), List.filter_nil]
  rw [List.map_cons, List.map_cons, List.map_nil, i1, i4, e1, e4]
theorem of3' : ofL [x1, x2, x4] 3 = (0, false) := by
  unfold ofL
  rw [groupOf_none (by simp [x1, x2, x4])]
end Go.Proofs.Ytlobiebmaheflaa
