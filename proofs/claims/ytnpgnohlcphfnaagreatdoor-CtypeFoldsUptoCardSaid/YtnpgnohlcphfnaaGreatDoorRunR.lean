/- A region that draws its order: a set of operations that only read may be run in a given order, where all the others wait for each of them. A law over any program. -/
import Derived.Test.YtnpgnohlcphfnaaGreatDoorHeadR
namespace Go.Proofs.YtnpgnohlcphfnaaGreatDoor
open Go
set_option linter.unusedVariables false

section
variable {P : Program} {ops : Array Oper} {md : Region.Mode} {w : World}
/-- Which operations wait for operation i, in one step or many. -/
def wtTo (md : Region.Mode) (ops : Array Oper) (i : Nat) : Nat → Array Bool
  | 0 => #[]
  | t + 1 => (wtTo md ops i t).push (match ops[t]? with
    | none => false
    | some o => o.after.any fun e => Region.binds md e && (e.on == i || (wtTo md ops i t).getD e.on false))
theorem wtTo_size (i : Nat) : ∀ T, (wtTo md ops i T).size = T
  | 0 => rfl
  | T + 1 => by unfold wtTo; rw [Array.size_push, wtTo_size i T]
structure RunInv (md : Region.Mode) (ops : Array Oper) (base listed : Array Bool) : Prop where
  more : ∀ t, base.getD t true = true → listed.getD t true = true
  size : listed.size = ops.size
  closed : ∀ j oj, ops[j]? = some oj → listed.getD j false = true → ∀ e ∈ oj.after, Region.binds md e = true → listed.getD e.on false = true
theorem RunInv.set {i : Nat} {base listed : Array Bool} (inv : RunInv md ops base listed) (hi : i ∈ Region.ready md ops listed) : RunInv md ops base (listed.setIfInBounds i true) := by
  obtain ⟨_, oi, hoi, hall⟩ := mem_ready.1 hi
  refine ⟨fun t ht => ?_, by simp [inv.size], fun j oj hj hl e he hb => ?_⟩
  · by_cases hit : i = t
    · subst hit
      have hlt : i < listed.size := by rw [inv.size]; exact (Array.getElem?_eq_some_iff.1 hoi).1
      simp [hlt]
    · rw [getD_set_ne true hit]; exact inv.more t ht
  by_cases hij : i = j
  · subst hij
    have : oj = oi := Option.some.inj (hj.symm.trans hoi)
    subst this
    exact getD_set_true (hall e he hb)
  · rw [getD_set_ne false hij] at hl
    exact getD_set_true (inv.closed j oj hj hl e he hb)
/-- What waits for an unlisted operation has an edge that is not paid. -/
theorem wt_waits {i : Nat} {base listed : Array Bool} (inv : RunInv md ops base listed) (hun : listed.getD i false = false) : ∀ T t, t < T → (wtTo md ops i T).getD t false = true → ∃ o, ops[t]? = some o ∧ ∃ e, e ∈ o.after ∧ Region.binds md e = true ∧ listed.getD e.on false = false
  | 0, t, h, _ => by omega
  | T + 1, t, h, hw => by
    by_cases htT : t = T
    · subst htT
      have hz := wtTo_size (md := md) (ops := ops) i t
      unfold wtTo at hw
      rw [Array.getD_eq_getD_getElem?, Array.getElem?_push, if_pos hz.symm] at hw
      simp only [Option.getD_some] at hw
      cases ho : ops[t]? with
      | none => rw [ho] at hw; cases hw
      | some o =>
        rw [ho] at hw
        simp only at hw
        obtain ⟨e, he, h2⟩ := Array.any_eq_true'.1 hw
        simp only [Bool.and_eq_true, Bool.or_eq_true, beq_iff_eq] at h2
        refine ⟨o, rfl, e, he, h2.1, ?_⟩
        rcases h2.2 with h3 | h3
        · rw [h3]; exact hun
        · have hlt : e.on < t := by
            rcases Nat.lt_or_ge e.on t with h4 | h4
            · exact h4
            · rw [Array.getD_eq_getD_getElem?, Array.getElem?_eq_none (by omega)] at h3
              cases h3
          obtain ⟨o', ho', e', he', hb', hl'⟩ := wt_waits inv hun t e.on hlt h3
          cases hl : listed.getD e.on false with
          | false => rfl
          | true =>
            have := inv.closed e.on o' ho' hl e' he' hb'
            rw [hl'] at this; cases this
    · have hz := wtTo_size (md := md) (ops := ops) i T
      unfold wtTo at hw
      rw [Array.getD_eq_getD_getElem?, Array.getElem?_push, if_neg (by omega), ← Array.getD_eq_getD_getElem?] at hw
      exact wt_waits inv hun T t (by omega) hw
/-- Each operation outside the set that is still to come waits for each one of the set. -/
def awaitB (md : Region.Mode) (ops : Array Oper) (idx : List Nat) (listed : Array Bool) : Bool :=
  idx.all fun i => let r := wtTo md ops i ops.size; (List.range ops.size).all fun t => listed.getD t true || idx.contains t || r.getD t false
def wpAnyI (P : Program) (md : Region.Mode) (ops : Array Oper) (w : World) (idx : List Nat) (L : Array Bool → Act → Prop) : Nat → Array Bool → Act → Prop
  | 0, listed, a => L listed a
  | f + 1, listed, a => Region.ready md ops listed ≠ [] ∧ ∀ i ∈ Region.ready md ops listed, i ∈ idx ∧ stOp P ops w i (wpAnyI P md ops w idx L f (listed.setIfInBounds i true)) a
theorem wpAny_of_idx {idx : List Nat} {g : Nat} {L : Array Bool → Act → Prop} {Q' : Exit → Act → World → Prop} (hL : ∀ listed a, L listed a → wpAny P md ops Q' g listed a w) :
    ∀ (f : Nat) (listed : Array Bool) (a : Act), wpAnyI P md ops w idx L f listed a → wpAny P md ops Q' (f + g) listed a w
  | 0, listed, a, h => by rw [Nat.zero_add]; exact hL _ _ h
  | f + 1, listed, a, h => by
    rw [show f + 1 + g = (f + g) + 1 by omega]
    exact ⟨fun h0 => absurd h0 h.1, fun i hi => wpOp_of_stOp (fun a' h' => wpAny_of_idx hL f _ a' h') (h.2 i hi).2⟩

theorem idxL_first {idx : List Nat} {base : Array Bool} {i : Nat} {oi : Oper} {v : Value} {L : Array Bool → Act → Prop} (hi : ops[i]? = some oi) (hsel : ∀ (j : Nat) (o : Oper) cs b, ops[j]? = some o → o.op ≠ .select cs b)
    (hw : ∀ listed, RunInv md ops base listed → ∀ i, i ∈ idx → listed.getD i true = false → ∀ t, t ∈ Region.ready md ops listed → t ∈ idx) (hin : i ∈ idx)
    (hdone : ∀ listed a, L listed a → ∀ j ∈ Region.ready md ops listed, j ∉ idx) :
    ∀ (f : Nat) (listed : Array Bool) (a : Act), RunInv md ops base listed →
      (∀ j oj, ops[j]? = some oj → j ≠ i → listed.getD j true = false → (∀ e ∈ oj.after, Region.binds md e = true → e.on ≠ i) → oi.apart ops oj = true) →
      i ∈ Region.ready md ops listed → YieldsAt P ops w oi v a →
      wpAnyI P md ops w idx L f (listed.setIfInBounds i true) (a.put oi.dst v) → wpAnyI P md ops w idx L (f + 1) listed a := by
  intro f
  induction f with
  | zero =>
    intro listed a inv _ hr hy H
    have hun := (mem_ready.1 hr).1
    refine ⟨fun h => (by rw [h] at hr; cases hr), fun j hj => ?_⟩
    have hjn : j ∈ idx := hw listed inv i hin hun j hj
    refine ⟨hjn, ?_⟩
    by_cases hji : j = i
    · subst hji; exact hy.stOp hi H
    · exact absurd hjn (hdone _ _ H j (ready_mono hj hji))
  | succ f ih =>
    intro listed a inv hfree hr hy H
    have hun := (mem_ready.1 hr).1
    refine ⟨fun h => (by rw [h] at hr; cases hr), fun j hj => ?_⟩
    have hjn : j ∈ idx := hw listed inv i hin hun j hj
    refine ⟨hjn, ?_⟩
    by_cases hji : j = i
    · subst hji; exact hy.stOp hi H
    · have h1 := (H.2 j (ready_mono hj hji)).2
      obtain ⟨hjun, oj, hoj, hall⟩ := mem_ready.1 hj
      have hnot : ∀ e ∈ oj.after, Region.binds md e = true → e.on ≠ i := fun e he hb heq => by
        have h1 := hall e he hb
        rw [heq, getD_both hun] at h1
        cases h1
      have h2 := stOp_put hoj (hfree j oj hoj hji hjun hnot) (fun cs b => hsel i oi cs b hi) (fun cs b => hsel j oj cs b hoj) hy h1
      have hfree' : ∀ k ok, ops[k]? = some ok → k ≠ i → (listed.setIfInBounds j true).getD k true = false →
          (∀ e ∈ ok.after, Region.binds md e = true → e.on ≠ i) → oi.apart ops ok = true := fun k ok hk hki hun hno => by
        refine hfree k ok hk hki ?_ hno
        by_cases hjk : j = k
        · subst hjk; exact hjun
        · rw [getD_set_ne true hjk] at hun; exact hun
      refine stOp_mono (fun a' h3 => ih (listed.setIfInBounds j true) a' (inv.set hj) hfree' (ready_mono hr (Ne.symm hji)) h3.1 ?_) h2
      rw [Array.setIfInBounds_comm _ _ hji]
      exact h3.2

/-- The set may come up in the given order, each operation free. -/
def idxRun (md : Region.Mode) (ops : Array Oper) : List Nat → Array Bool → Bool
  | [], _ => true
  | k :: r, listed => (Region.ready md ops listed).contains k && Region.free md ops listed k && idxRun md ops r (listed.setIfInBounds k true)
def idxOff : List Nat → Array Bool → Array Bool
  | [], listed => listed
  | k :: r, listed => idxOff r (listed.setIfInBounds k true)
/-- What is listed is closed under what it waits for. -/
def closedB (md : Region.Mode) (ops : Array Oper) (listed : Array Bool) : Bool :=
  (List.range ops.size).all fun j => !listed.getD j false || (match ops[j]? with | none => true | some o => o.after.all fun e => !Region.binds md e || listed.getD e.on false)
def runB (md : Region.Mode) (ops : Array Oper) (idx : List Nat) (listed : Array Bool) : Bool :=
  Region.noSelect ops && (listed.size == ops.size) && closedB md ops listed && awaitB md ops idx listed && idxRun md ops idx listed && idx.all fun j => (idxOff idx listed).getD j true
theorem idxL_lex {idx : List Nat} {base done : Array Bool} {Lq : Act → Prop} (hsel : Region.noSelect ops = true)
    (hw : ∀ listed, RunInv md ops base listed → ∀ i, i ∈ idx → listed.getD i true = false → ∀ t, t ∈ Region.ready md ops listed → t ∈ idx) (hdone : ∀ j, j ∈ idx → done.getD j true = true) :
    ∀ (r : List Nat) (l : List Oper) (listed : Array Bool) (a : Act), (∀ k, k ∈ r → k ∈ idx) → r.map (fun k => ops[k]?) = l.map some → RunInv md ops base listed → idxOff r listed = done →
    idxRun md ops r listed = true → wpStill P ops w Lq l a →
    wpAnyI P md ops w idx (fun listed' a' => listed' = done ∧ Lq a') r.length listed a
  | [], [], listed, a, _, _, inv, hd, hB, h => ⟨by simpa [idxOff] using hd, h⟩
  | [], o :: l, listed, a, _, hm, _, _, _, _ => by simp at hm
  | k :: r, [], listed, a, _, hm, _, _, _, _ => by simp at hm
  | k :: r, o :: l, listed, a, hsub, hm, inv, hd, hB, h => by
    simp only [List.map_cons, List.cons.injEq] at hm
    obtain ⟨h0, hm⟩ := hm
    simp only [idxRun, Bool.and_eq_true] at hB
    obtain ⟨⟨hr, hf⟩, hB'⟩ := hB
    have hr' : k ∈ Region.ready md ops listed := by simpa using hr
    have hst : stOp P ops w k (wpStill P ops w Lq l) a := by unfold stOp; simp only [h0]; exact h
    obtain ⟨v, hy, hK⟩ := yieldsAt_of_stOp h0 hst
    refine idxL_first h0 (Region.noSelect_spec hsel) hw (hsub k (by simp)) (fun listed' a' hL j hj hji => ?_) r.length listed a inv (Region.free_spec h0 hf) hr' hy
      (idxL_lex hsel hw hdone r l _ _ (fun j hj => hsub j (by simp [hj])) hm (inv.set hr') (by simpa [idxOff] using hd) hB' hK)
    rw [hL.1] at hj
    have hjun := (mem_ready.1 hj).1
    rw [hdone j hji] at hjun
    cases hjun
/-- Operations that only read, run in a given order. -/
theorem AnyS.run {Q : Exit → Act → World → Prop} {a : Act} {fuel : Nat} {listed : Array Bool} (idx : List Nat) (done : Array Bool) (l : List Oper) (hB : runB .any ops idx listed = true) (hd : idxOff idx listed = done) (hm : idx.map (fun k => ops[k]?) = l.map some)
    (h0 : StillS P ops w (fun a' => AnyS P ops Q fuel done a' w) l a) : AnyS P ops Q (idx.length + fuel) listed a w := by
  simp only [runB, Bool.and_eq_true] at hB
  obtain ⟨⟨⟨⟨⟨hsel, hsz⟩, hcl⟩, haw⟩, hrun⟩, hall⟩ := hB
  have inv0 : RunInv .any ops listed listed := by
    refine ⟨fun _ h => h, by simpa using hsz, fun j oj hj hl e he hb => ?_⟩
    have hlt : j < ops.size := (Array.getElem?_eq_some_iff.1 hj).1
    have h1 := List.all_eq_true.1 hcl j (List.mem_range.2 hlt)
    rw [hl, hj] at h1
    simp only [Bool.not_true, Bool.false_or] at h1
    have h2 := Array.all_eq_true'.1 h1 e he
    rw [hb] at h2
    simpa using h2
  have hw : ∀ listed', RunInv .any ops listed listed' → ∀ i, i ∈ idx → listed'.getD i true = false → ∀ t, t ∈ Region.ready .any ops listed' → t ∈ idx := by
    intro listed' inv i hi hun t ht
    have hun' := (mem_ready.1 ht).1
    obtain ⟨_, ot, hot, hall2⟩ := mem_ready.1 ht
    have htlt : t < ops.size := (Array.getElem?_eq_some_iff.1 hot).1
    have h1 := List.all_eq_true.1 (List.all_eq_true.1 haw i hi) t (List.mem_range.2 htlt)
    simp only [Bool.or_eq_true] at h1
    rcases h1 with (h1 | h1) | h1
    · rw [inv.more t h1] at hun'; cases hun'
    · simpa using h1
    · obtain ⟨o, ho, e, he, hb, hl⟩ := wt_waits inv (getD_both hun) ops.size t htlt h1
      have : o = ot := Option.some.inj (ho.symm.trans hot)
      subst this
      rw [hall2 e he hb] at hl
      cases hl
  rw [hd] at hall
  refine ⟨wpAny_of_idx (idx := idx) (L := fun listed' a' => listed' = done ∧ AnyS P ops Q fuel done a' w) (fun listed' a' hL => by rw [hL.1]; exact hL.2.out) _ _ _ ?_⟩
  exact idxL_lex hsel hw (fun j hj => List.all_eq_true.1 hall j hj) idx l listed a (fun _ h => h) hm inv0 hd hrun h0.out
/-- The whole region, its orders drawn. -/
theorem wp_region_run {id : Nat} {Q : Exit → Act → World → Prop} {a : Act} {l : List Oper} (hm : P.follows .mixedOrders = true)
    (h : AnyS P l.toArray Q l.length (Array.replicate l.length false) a w.drew) : (Code.region id l.toArray true).wp P Q a w := by
  refine wp_region_any hm ?_
  have := h.out
  simpa using this
theorem AnyS.done {Q : Exit → Act → World → Prop} {a : Act} {listed : Array Bool} {fuel : Nat} (hr : Region.ready .any ops listed = []) (h : Q .normal a w) : AnyS P ops Q fuel listed a w := ⟨wpAny_done hr h _⟩
theorem seg_map {lst : List Oper} {s n : Nat} (h : s + n ≤ lst.length) : (List.range' s n).map (fun k => lst.toArray[k]?) = ((lst.drop s).take n).map some := by
  apply List.ext_getElem?
  intro i
  by_cases hi : i < n
  · rw [List.getElem?_map, List.getElem?_map, List.getElem?_range' hi, List.getElem?_take, if_pos hi, List.getElem?_drop]
    simp
    have : s + i < lst.length := by omega
    simp [this]
  · rw [List.getElem?_eq_none (by simp; omega), List.getElem?_eq_none (by simp; omega)]
/-- Operations s, .., s + n - 1, which only read, run in the text's order. -/
theorem AnyS.seg {Q : Exit → Act → World → Prop} {a : Act} {N fuel : Nat} {listed : Array Bool} {lst : List Oper} (s n : Nat) (hN : N = n + fuel) (hsn : Nat.ble (s + n) lst.length = true) (hB : runB .any lst.toArray (List.range' s n) listed = true)
    (h0 : StillS P lst.toArray w (fun a' => AnyS P lst.toArray Q fuel (idxOff (List.range' s n) listed) a' w) ((lst.drop s).take n) a) : AnyS P lst.toArray Q N listed a w := by
  have := AnyS.run (Q := Q) (List.range' s n) _ _ hB rfl (seg_map (Nat.le_of_ble_eq_true hsn)) h0
  rw [List.length_range'] at this
  rw [hN]; exact this
end
end Go.Proofs.YtnpgnohlcphfnaaGreatDoor
