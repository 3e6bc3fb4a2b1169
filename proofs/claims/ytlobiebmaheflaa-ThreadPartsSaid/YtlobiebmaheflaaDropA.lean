/- What Drop's loops do to a set: a class falls apart, and is tied anew. -/
import Derived.Test.YtlobiebmaheflaaGroup
namespace Go.Proofs.Ytlobiebmaheflaa
open Go.RowKit
set_option linter.unusedVariables false

section
variable {w w' : World} {tag tag' : Nat → Tag} {hd N T : Nat} {nm : Int → Option Nat} {live ok ok' : Nat → Prop} {num : Nat → Int} {tm : Nat → List Tie} {up root dep : Nat → Nat} {grp : Nat → List Nat} {tl : Tie → List Nat} {c : Nat}
/-- A tie is struck. -/
theorem Mem.strikeTie (h : Mem w tag hd N T nm live ok num tm up grp tl c) {tv : Tie → Value} (ht1 : TiesMap w T tv c) (ht2 : ∀ k, TieFits k → PtrRow w tag (tTie k) (tv k) (tl k)) {k : Tie} (hg : w.grownBy w' (some T)) (hT : TiesMap w' T (upd tv k (.slice none 0 0)) c) :
    Mem w' tag hd N T nm live ok num tm up grp (upd tl k []) c := by
  have h1 := h.turnTies ht1 ht2 (k := k) (v := .slice none 0 0) (l := []) (c' := c) ((Off.refl _ w).grown hg (fun b e => .inl (.inl (Option.some.inj e).symm))) hT (Nat.le_refl _) (World.ownsRow_nil _ _ _ _) (fun g e => by cases e)
  have e : (fun b => if (Value.slice none 0 0).ownBlock = some b then tTie k else tag b) = tag := by funext b; simp [Value.ownBlock]
  rwa [e] at h1
/-- A block that was a node's is nobody's. -/
theorem Mem.untag (h : Mem w tag hd N T nm live ok num tm up grp tl c) {n : Nat} (hn : ¬ live n) (ht : tag n = tNode) : Mem w (upd tag n tOut) hd N T nm live ok num tm up grp tl c := by
  have one : ∀ b t, tag b = t → t ≠ tNode → upd tag n tOut b = t := fun b t hb hne => by
    rw [upd_other _ _ (fun e : b = n => hne (by rw [← hb, e]; exact ht))]; exact hb
  refine ⟨h.hdr, one hd _ h.tagH (by simp [tHd, tNode]), h.nodes, one N _ h.tagN (by simp [tNodes, tNode]), ?_, one T _ h.tagT (by simp [tTies, tNode]), fun g hg => ?_, fun b hb => ?_⟩
  · obtain ⟨tv, h1, h2⟩ := h.ties
    exact ⟨tv, h1, fun k hk => (h2 k hk).keep fun b e _ => ⟨rfl, one b _ e (by simp [tTie, tNode])⟩⟩
  · obtain ⟨tv, gv, h1, h2, h3, h4⟩ := h.node g hg
    have hne : g ≠ n := fun e => hn (e ▸ hg)
    exact ⟨tv, gv, h1, by rw [upd_other _ _ hne]; exact h2, h3.keep fun b e _ => ⟨rfl, one b _ e (by simp [tOwn, tNode])⟩, fun ho => (h4 ho).keep fun b e _ => ⟨rfl, one b _ e (by simp [tGrp, tNode])⟩⟩
  · by_cases e : b = n
    · subst e; exact upd_same _ _ _
    · rw [upd_other _ _ e]; exact h.fresh b hb
/-- A row of a group is given away. -/
theorem Mem.giveRow (h : Mem w tag hd N T nm live ok num tm up grp tl c) {r b : Nat} (hb : tag b = tGrp r) (hok : ∀ g, live g → ok' g → ok g) (hr : ¬ ok' r) : Mem w (upd tag b tOut) hd N T nm live ok' num tm up grp tl c := by
  refine h.pass hok (fun b' hb' => ?_) fun b' h1 h2 => ?_
  · by_cases e : b' = b
    · subst e; exact upd_same _ _ _
    · rw [upd_other _ _ e]; exact h.fresh b' hb'
  · by_cases e : b' = b
    · subst e; exact .inl ⟨r, hb, hr⟩
    · exact .inr ⟨rfl, upd_other _ _ e⟩
theorem grows_out {b : Nat} : Grows w tag (upd tag b tOut) := fun x hx => by
  unfold Mut
  by_cases e : x = b
  · subst e; rw [upd_same]; exact ⟨fun _ => rfl, fun _ h => h.1 rfl⟩
  · rw [upd_other _ _ e]; exact ⟨fun h => h, fun h => h⟩

/-- How far the class gl has fallen apart: the members of 'done' are alone, the ties K are struck. -/
structure Falling (w : World) (tag : Nat → Tag) (hd N T : Nat) (nm : Int → Option Nat) (live : Nat → Prop) (num : Nat → Int) (tm : Nat → List Tie) (up : Nat → Nat) (grp : Nat → List Nat) (tl : Tie → List Nat) (c : Nat) (gl done : List Nat) (K : Tie → Prop) (gr : Nat) (row : Option Obj) (w0 : World) (tag0 : Nat → Tag) : Prop where
  mem : ∃ up' grp' tl', Mem w tag hd N T nm live (fun g => (up g = g ∧ g ∉ gl) ∨ g ∈ done) num tm up' grp' tl' c ∧ (∀ g, g ∈ done → up' g = g ∧ grp' g = [g]) ∧ (∀ g, live g → g ∉ gl → up' g = up g ∧ grp' g = grp g) ∧ (∀ k, TieFits k → K k → tl' k = []) ∧ (∀ k, TieFits k → ¬ K k → tl' k = tl k)
  row : w.heap[gr]? = row ∧ tag gr = tOut
  off : Off (Mut tag0) w0 w
  grows : Grows w0 tag0 tag
namespace Falling
variable {gl done : List Nat} {K K' : Tie → Prop} {gr : Nat} {row : Option Obj} {w0 : World} {tag0 : Nat → Tag}
theorem congrK (h : Falling w tag hd N T nm live num tm up grp tl c gl done K gr row w0 tag0) (hK : ∀ k, TieFits k → (K k ↔ K' k)) : Falling w tag hd N T nm live num tm up grp tl c gl done K' gr row w0 tag0 := by
  obtain ⟨up', grp', tl', h1, h2, h3, h4, h5⟩ := h.mem
  exact { h with mem := ⟨up', grp', tl', h1, h2, h3, fun k hk hKk => h4 k hk ((hK k hk).2 hKk), fun k hk hKk => h5 k hk fun h => hKk ((hK k hk).1 h)⟩ }
/-- One more member is alone. -/
theorem alone (h : Falling w tag hd N T nm live num tm up grp tl c gl done K gr row w0 tag0) {x : Nat} (hx : live x) (hxg : x ∈ gl) (hxd : x ∉ done) {i tv u gv : Value} (hb : w.heap[x]? = some (.cells #[i, tv, u, gv] 64 (0, 0))) (hgr : gr < w.heap.size) {e : Ending} (ha : AlonePost x i tv w e w') :
    Falling w' (upd tag w.heap.size (tGrp x)) hd N T nm live num tm up grp tl c gl (done ++ [x]) K gr row w0 tag0 := by
  obtain ⟨up', grp', tl', h1, h2, h3, h4, h5⟩ := h.mem
  have m := alone_live h1 hx hb ha
  have hxt := (h1.node_tag hx).1
  have hgx : gr ≠ x := fun e => by have := h.row.2; rw [e, hxt] at this; simp [tNode, tOut] at this
  refine ⟨⟨_, _, tl', m.less fun g _ ho => ?_, fun g hg => ?_, fun g hg hgn => ?_, h4, h5⟩, ⟨(ha.2.2.2.2.block gr hgr hgx).trans h.row.1, by rw [upd_other _ _ (by omega)]; exact h.row.2⟩, ?_, ?_⟩
  · rcases ho with ho | ho
    · exact .inl (.inl ho)
    · rcases List.mem_append.1 ho with ho | ho
      · exact .inl (.inr ho)
      · exact .inr (List.mem_singleton.1 ho)
  · rcases List.mem_append.1 hg with hg | hg
    · have e : g ≠ x := fun e => hxd (e ▸ hg)
      rw [upd_other _ _ e, upd_other _ _ e]; exact h2 g hg
    · rw [List.mem_singleton.1 hg, upd_same, upd_same]; exact ⟨rfl, rfl⟩
  · have e : g ≠ x := fun e => hgn (e ▸ hxg)
    rw [upd_other _ _ e, upd_other _ _ e]; exact h3 g hg hgn
  · refine h.off.andThen ha.2.2.2.2 fun b hbb e => ?_
    subst e
    exact Classical.byContradiction fun hn => (h.grows b hbb).2 hn ⟨by rw [hxt]; simp [tNode, tOut], by rw [hxt]; simp [tNode]⟩
  · intro b hb
    have hs := h.off.size
    unfold Mut
    rw [upd_other _ _ (by omega)]
    exact h.grows b hb
/-- One more tie is struck. -/
theorem strike (h : Falling w tag hd N T nm live num tm up grp tl c gl done K gr row w0 tag0) {k : Tie} (hk : TieFits k) (hgr : gr < w.heap.size) (hw' : ∀ tv, TiesMap w T tv c → w.grownBy w' (some T) ∧ TiesMap w' T (upd tv k (.slice none 0 0)) c) :
    Falling w' tag hd N T nm live num tm up grp tl c gl done (fun k' => K k' ∨ k' = k) gr row w0 tag0 := by
  obtain ⟨up', grp', tl', h1, h2, h3, h4, h5⟩ := h.mem
  obtain ⟨tv, ht1, ht2⟩ := h1.ties
  obtain ⟨hg, hT⟩ := hw' tv ht1
  have m := h1.strikeTie ht1 ht2 hg hT
  have hne : gr ≠ T := fun e => by have := h.row.2; rw [e, h1.tagT] at this; simp [tTies, tOut] at this
  refine ⟨⟨up', grp', _, m, h2, h3, fun k' hk' hK => ?_, fun k' hk' hK => ?_⟩, ⟨(hg.block gr hgr (fun e => hne (Option.some.inj e))).trans h.row.1, h.row.2⟩, h.off.grown hg (fun b e => ?_), h.grows⟩
  · by_cases e : k' = k
    · subst e; exact upd_same _ _ _
    · rw [upd_other _ _ e]; exact h4 k' hk' (hK.resolve_right e)
  · have e : k' ≠ k := fun e => hK (.inr e)
    rw [upd_other _ _ e]; exact h5 k' hk' fun h => hK (.inl h)
  · have e2 : T = b := Option.some.inj e
    subst e2
    rcases Nat.lt_or_ge T w0.heap.size with hl | hl
    · exact .inl (Classical.byContradiction fun hn => (h.grows T hl).2 hn ⟨by rw [h1.tagT]; simp [tTies, tOut], by rw [h1.tagT]; simp [tTies]⟩)
    · exact .inr hl
/-- What the set does not own has turned. -/
theorem skip (h : Falling w tag hd N T nm live num tm up grp tl c gl done K gr row w0 tag0) {F : Nat → Prop} (hO : Off F w w') (hF : ∀ b, F b → tag b = tOut ∧ b ≠ gr) (hgr : gr < w.heap.size) (hF0 : ∀ b, b < w0.heap.size → ¬ F b) : Falling w' tag hd N T nm live num tm up grp tl c gl done K gr row w0 tag0 := by
  obtain ⟨up', grp', tl', h1, h2, h3, h4, h5⟩ := h.mem
  exact ⟨⟨up', grp', tl', h1.off hO fun b hb => (hF b hb).1, h2, h3, h4, h5⟩, ⟨(hO.block gr hgr (fun h => (hF gr h).2 rfl)).trans h.row.1, h.row.2⟩, h.off.andThen hO fun i hi hf => absurd hf (hF0 i hi), h.grows⟩
end Falling

/-- The class has fallen apart, and n is gone. -/
theorem fallen {gl : List Nat} {gr : Nat} {row : Option Obj} {w0 : World} {tag0 : Nat → Tag} {n : Nat} (hk : Knit live (fun g k => k ∈ tm g) up root dep grp tl) (hn : live n) (hgl : ∀ y, y ∈ gl ↔ (live y ∧ root y = root n))
    (h : Falling w tag hd N T nm live num tm up grp tl c gl gl (fun k => ∃ m, m ∈ gl ∧ k ∈ tm m) gr row w0 tag0) (hfit : ∀ g k, live g → k ∈ tm g → TieFits k) :
    ∃ up' root' grp' tl', Whole w (upd tag n tOut) hd N T nm (fun g => live g ∧ g ≠ n) num tm (fun g k => k ∈ tm g ∧ g ∉ gl) up' root' dep grp' tl' c := by
  obtain ⟨up', grp', tl', h1, h2, h3, h4, h5⟩ := h.mem
  have htl : ∀ k, (¬ TieFits k) → tl k = [] := fun k hk' => by
    rw [List.eq_nil_iff_forall_not_mem]
    intro g hg
    obtain ⟨h6, h7⟩ := (hk.tlM k g).1 hg
    exact hk' (hfit g k h6 h7)
  classical
  have hk2 := hk.fall (n := n) hn hgl (up' := up') (grp' := grp') (tl' := fun k => if TieFits k then tl' k else []) h2 h3
    (fun k hb => by
      by_cases hf : TieFits k
      · rw [if_pos hf]; exact h4 k hf hb
      · rw [if_neg hf])
    (fun k hb => by
      by_cases hf : TieFits k
      · rw [if_pos hf]; exact h5 k hf hb
      · rw [if_neg hf, htl k hf])
  have hnl : n ∈ gl := (hgl n).2 ⟨hn, rfl⟩
  refine ⟨up', _, grp', _, ⟨?_, hk2⟩⟩
  have m1 := (h1.less (ok' := fun g => (up g = g ∧ g ∉ gl) ∨ g ∈ gl) fun _ _ h => h).congr (tl' := fun k => if TieFits k then tl' k else []) (fun g _ => ⟨rfl, rfl, rfl, fun _ => rfl⟩) (fun k hf => by simp only [if_pos hf])
  have m2 := (m1.sub (live' := fun g => live g ∧ g ≠ n) fun g hg => hg.1).untag (n := n) (fun hh => hh.2 rfl) (h1.node_tag hn).1
  refine m2.less fun g hg e => ?_
  by_cases hgm : g ∈ gl
  · exact .inr hgm
  · exact .inl ⟨by rw [← (h3 g hg.1 hgm).1]; exact e, hgm⟩
/-- The set that has lost a message. -/
theorem drop_th {w5 : World} {tag5 : Nat → Tag} {nd : List (Msg × Nat)} {c' : Nat} {up' root' dep' : Nat → Nat} {grp' : Nat → List Nat} {tl' : Tie → List Nat} {n : Nat} {m : Msg} {eff : Nat → Tie → Prop}
    (hp : ThP w tag hd nd c N T nm live num tm up root dep grp tl) (hmn : (m, n) ∈ nd) (hW : Whole w5 tag5 hd N T (upd nm m.id none) (fun g => live g ∧ g ≠ n) num tm eff up' root' dep' grp' tl' c') (heff : ∀ g k, live g → g ≠ n → (eff g k ↔ k ∈ tm g)) :
    Th w5 tag5 hd (del m.id (msgs nd)) c' := by
  have hmem : ∀ x g, (x, g) ∈ nd.filter (fun p => p.1.id != m.id) ↔ (x, g) ∈ nd ∧ x.id ≠ m.id := fun x g => by simp [List.mem_filter]
  refine ⟨nd.filter fun p => p.1.id != m.id, N, T, _, _, num, tm, up', root', dep', grp', tl', ⟨⟨hW.mem, hW.knit.congr (fun _ => Iff.rfl) fun g k hg => heff g k hg.1 hg.2⟩, hp.bears.go hmn (fun g k _ _ => Iff.rfl), fun i g => ?_, fun x g hg => hp.num x g ((hmem x g).1 hg).1, fun x g hg => hp.fine x g ((hmem x g).1 hg).1⟩, msgs_filter _ _⟩
  by_cases e : i = m.id
  · subst e
    rw [upd_same]
    constructor
    · intro h; cases h
    · rintro ⟨x, hx, e⟩; exact absurd e ((hmem x g).1 hx).2
  · rw [upd_other _ _ e, hp.name]
    constructor
    · rintro ⟨x, hx, h⟩; exact ⟨x, (hmem x g).2 ⟨hx, by rw [h]; exact e⟩, h⟩
    · rintro ⟨x, hx, h⟩; exact ⟨x, ((hmem x g).1 hx).1, h⟩
end
end Go.Proofs.Ytlobiebmaheflaa
