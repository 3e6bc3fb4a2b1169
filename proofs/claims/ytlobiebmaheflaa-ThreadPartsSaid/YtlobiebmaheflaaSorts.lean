/- slices.SortFunc at the rows of All: the rows by their first elements. -/
import Derived.Test.YtlobiebmaheflaaShelf2
import Derived.Shelf.SlSortCmp.NoneTotal
namespace Go.Proofs.Ytlobiebmaheflaa
open Go.RowKit
set_option linter.unusedVariables false

/-- The comparer: the difference of the first elements. -/
theorem cmp_any (a b : Addr) (n m c d : Nat) (x y : Int) (W : World) (hn : 0 < n) (hm : 0 < m) (ha : W.cell? a = some (.int .i64 x)) (hb : W.cell? b = some (.int .i64 y)) (hx : 1 ≤ x ∧ x ≤ 9223372036854775807) (hy : 1 ≤ y ∧ y ≤ 9223372036854775807) :
    Calls Try.prog 32 #[.slice (some a) n c, .slice (some b) m d] W fun e w' => e = .returned (.int .i64 (x - y)) ∧ ∃ q, w' = W.drewN q := by
  obtain ⟨hx1, hx2⟩ := hx
  obtain ⟨hy1, hy2⟩ := hy
  have hi1 : (0 : Int) < n := by omega
  have hi2 : (0 : Int) < m := by omega
  have hw : IntKind.i64.wrap (x - y) = x - y := IntWalk.i64_in _ (by omega)
  go_enter Try.func32, Try.ntmps32
  go_wp2
  go_quiet (fail)
  go_wp2
  go_ret
  exact ⟨rfl, nq, rfl⟩

/-- The slice value v owns slices that own the lists ll. -/
def OwnRows (w : World) (B : Nat) (v : Value) (ll : List (List Int)) : Prop :=
  ∃ vs : List Value, w.ownsRow B 40 1 v vs.length vs ∧ vs.length = ll.length ∧ ∀ i (h1 : i < vs.length) (h2 : i < ll.length), OwnInts w B vs[i] ll[i] ∧ (∀ b, vs[i].ownBlock = some b → v.ownBlock ≠ some b)
theorem OwnRows.nil_ (w : World) (B : Nat) : OwnRows w B (.slice none 0 0) [] := ⟨[], World.ownsRow_nil _ _ _ _, rfl, fun i h => by simp at h⟩
theorem OwnRows.off {w w' : World} {B : Nat} {v : Value} {ll : List (List Int)} (h : OwnRows w B v ll) (hO : ∀ b, B ≤ b → b < w.heap.size → w'.heap[b]? = w.heap[b]?) : OwnRows w' B v ll := by
  obtain ⟨vs, h1, h2, h3⟩ := h
  exact ⟨vs, ownsRow_block h1 fun b e => hO b (h1.lt b e).1 (h1.lt b e).2, h2, fun i a b => ⟨(h3 i a b).1.block fun k e => hO k ((h3 i a b).1.1.lt k e).1 ((h3 i a b).1.1.lt k e).2, (h3 i a b).2⟩⟩

theorem sortFunc_none (p : Option Addr) (cap : Nat) (fv : Value) (w : World) : Calls Try.prog 31 #[.slice p 0 cap, fv] w fun e w' => e = .returned (.tuple #[]) ∧ w' = w :=
  AnyF.slices_SortFunc_none (P := Try.prog) (ρ := Try.laysSlF6_f31_ren) { Try.laysSlF6_f31 with } p cap fv w

theorem sortWorld_far {α : Type} [Inhabited α] (enc : α → Value) (w : World) (g off q : Nat) (d : Array α) (os : Array Obj) {k : Nat} (hk : k ≠ g) (hl : k < w.heap.size) : (sortWorld enc w g off q d os).heap[k]? = w.heap[k]? := by
  have hs : (Sort.putRow enc (Sort.ahead w q) g off d).heap.size = w.heap.size := by show (w.heap.modify g _).size = _; simp
  exact (grow_old _ _ (by rw [hs]; exact hl)).trans (putRow_far _ _ _ _ _ hk)
theorem sortWorld_row {α : Type} [Inhabited α] (enc : α → Value) (w : World) (g q : Nat) (d : Array α) (os : Array Obj) {cur : Array Value} {e : TypeId} (hg : w.heap[g]? = some (.cells cur e (0, 0))) (hd : d.size ≤ cur.size) :
    ∃ cur', (sortWorld enc w g 0 q d os).heap[g]? = some (.cells cur' e (0, 0)) ∧ cur'.size = cur.size ∧ cur'.toList.take d.size = d.toList.map enc := by
  obtain ⟨cur', h1, h2, h3⟩ := putRow_row enc (Sort.ahead w q) g d (cur := cur) (e := e) hg hd
  have hs : (Sort.putRow enc (Sort.ahead w q) g 0 d).heap.size = w.heap.size := by show (w.heap.modify g _).size = _; simp
  exact ⟨cur', (grow_old _ _ (by rw [hs]; exact heap_lt hg)).trans h1, h2, h3⟩
theorem sortWorld_size {α : Type} [Inhabited α] (enc : α → Value) (w : World) (g q : Nat) (d : Array α) (os : Array Obj) : w.heap.size ≤ (sortWorld enc w g 0 q d os).heap.size := by
  have hs : (Sort.putRow enc (Sort.ahead w q) g 0 d).heap.size = w.heap.size := by show (w.heap.modify g _).size = _; simp
  show _ ≤ (_ ++ os).size
  rw [Array.size_append, hs]; omega

theorem extract_all {α : Type} (d : Array α) {n : Nat} (h : d.size = n) : d.extract 0 n = d := by subst h; simp
def SortsPost (w : World) (B : Nat) (o : Value) (ll : List (List Int)) (e : Ending) (w' : World) : Prop :=
  e = .returned (.tuple #[]) ∧ ∃ ll', ll'.Perm ll ∧ ll'.Pairwise (fun a b => a.headD 0 ≤ b.headD 0) ∧ OwnRows w' B o ll' ∧ w.grownBy w' o.ownBlock

theorem sorts_any (w : World) (B : Nat) (o : Value) (ll : List (List Int)) (h : OwnRows w B o ll) (hne : ∀ l, l ∈ ll → ∃ x r, l = x :: r ∧ 1 ≤ x ∧ x ≤ 9223372036854775807) (hlen : ll.length ≤ 1000000) :
    Calls Try.prog 31 #[o, .func (.func 32) #[] #[]] w (SortsPost w B o ll) := by
  obtain ⟨vs, hv, hl, hvs⟩ := h
  rcases hv.2 with ⟨rfl, h0⟩ | ⟨g, cap, cur, rfl, hB, hg, h1, h2, h3, h4⟩
  · have e1 : vs = [] := List.eq_nil_of_length_eq_zero h0
    have e2 : ll = [] := List.eq_nil_of_length_eq_zero (by omega)
    subst e1; subst e2
    refine (sortFunc_none _ _ _ _).mono ?_
    rintro e w' ⟨rfl, rfl⟩
    exact ⟨rfl, [], List.Perm.refl _, List.Pairwise.nil, OwnRows.nil_ _ _, rfl, rfl, rfl, Nat.le_refl _, fun _ _ _ => rfl⟩
  · have hgl := heap_lt hg
    rcases Nat.eq_zero_or_pos vs.length with h0 | hpos
    · have e1 : vs = [] := List.eq_nil_of_length_eq_zero h0
      have e2 : ll = [] := List.eq_nil_of_length_eq_zero (by omega)
      subst e1; subst e2
      refine (sortFunc_none _ _ _ _).mono ?_
      rintro e w' ⟨rfl, rfl⟩
      exact ⟨rfl, [], List.Perm.refl _, List.Pairwise.nil, ⟨[], hv, rfl, fun i h => by simp at h⟩, rfl, rfl, rfl, Nat.le_refl _, fun _ _ _ => rfl⟩
    · obtain ⟨n, hn⟩ : ∃ n, vs.length = n := ⟨_, rfl⟩
      rw [hn] at hpos hv h1 h4
      haveI : Inhabited (Fin n) := ⟨⟨0, hpos⟩⟩
      have hvi : ∀ i : Fin n, i.val < vs.length := fun i => by rw [hn]; exact i.2
      have hli : ∀ i : Fin n, i.val < ll.length := fun i => by rw [← hl, hn]; exact i.2
      let enc : Fin n → Value := fun i => vs[i.val]'(hvi i)
      let row : Fin n → List Int := fun i => ll[i.val]'(hli i)
      let hdI : Fin n → Int := fun i => (row i).headD 0
      let cf : Fin n → Fin n → Int := fun i j => hdI i - hdI j
      have hrow : ∀ i : Fin n, ∃ x A q c, enc i = .slice (some A) q c ∧ 0 < q ∧ w.cell? A = some (.int .i64 x) ∧ 1 ≤ x ∧ x ≤ 9223372036854775807 ∧ hdI i = x ∧ A.block ≠ g ∧ A.block < w.heap.size := fun i => by
        obtain ⟨x, r, e, hx⟩ := hne (row i) (List.getElem_mem _)
        obtain ⟨hoi, hob⟩ := hvs i.val (hvi i) (hli i)
        have hoi' : OwnInts w B (enc i) (row i) := hoi
        have hob' : ∀ b, (enc i).ownBlock = some b → (Value.slice (some ⟨g, 0, none⟩) vs.length cap).ownBlock ≠ some b := hob
        rw [e] at hoi'
        rcases hoi'.1.2 with ⟨_, hz⟩ | ⟨g', cap', cur', e', hb', hg', _⟩
        · simp at hz
        · have hown := hoi'.1.cells (g := g') (by rw [e']; rfl) 0 (.int .i64 x) (by simp [iv])
          refine ⟨x, _, _, _, e', by simp, by simpa [Addr.add] using hown, hx.1, hx.2, ?_, ?_, heap_lt hg'⟩
          · show (row i).headD 0 = x
            rw [e]; rfl
          · intro eb
            exact hob' g' (by rw [e']; rfl) (by show some g = some g'; exact congrArg some eb.symm)
      have hd0 : (Array.ofFn (fun i : Fin n => i)).size = n := by simp
      obtain ⟨d, hd⟩ : ∃ d, (Array.ofFn (fun i : Fin n => i)) = d := ⟨_, rfl⟩
      rw [hd] at hd0
      have hcmp : CmpReads Try.prog 32 #[] enc cf g 0 d.size w := fun m os dk hs i j => by
        obtain ⟨x, A, q, c, e1, e2, e3, e4, e5, e6, e7, e8⟩ := hrow i
        obtain ⟨y, A', q', c', f1, f2, f3, f4, f5, f6, f7, f8⟩ := hrow j
        have key : ∀ a : Addr, a.block ≠ g → a.block < w.heap.size → (sortWorld enc w g 0 m dk os).cell? a = w.cell? a := fun a ha hb => by
          simp only [World.cell?, sortWorld_far enc w g 0 m dk os ha hb]
        rw [e1, f1]
        have := cmp_any A A' q q' c c' x y (sortWorld enc w g 0 m dk os) e2 f2 ((key A e7 e8).trans e3) ((key A' f7 f8).trans f3) ⟨e4, e5⟩ ⟨f4, f5⟩
        refine this.mono ?_
        rintro e w' ⟨rfl, hq⟩
        exact ⟨by show _ = Ending.returned (.int .i64 (hdI i - hdI j)); rw [e6, f6], hq⟩
      have hO : Sort.SWO (ltOf cf) := by
        refine ⟨fun x => ?_, fun x y z => ?_, fun x y z => ?_⟩
        · simp [ltOf, cf]
        · simp only [ltOf, cf, decide_eq_true_eq]; omega
        · simp only [ltOf, cf, decide_eq_false_iff_not]; omega
      have h1c : OneCell enc := fun i => by
        obtain ⟨x, A, q, c, e1, _⟩ := hrow i
        rw [e1]; rfl
      have hH : Sort.Holds enc w g 0 d := fun j hj => by
        have hjn : j < n := by omega
        have hjv : j < vs.length := by omega
        have e1 : d[j]! = (⟨j, hjn⟩ : Fin n) := by subst hd; simp [hjn]
        have := hv.cells (g := g) rfl j (vs[j]) (by simp [hjv])
        refine ⟨?_, ?_⟩
        · rw [e1, Nat.zero_add]
          show _ = some (vs[j])
          by_cases e : j = 0
          · subst e; simpa [Addr.add] using this
          · simpa [Addr.add, e] using this
        · simp [World.frozen?, hg]
      have hcall := Try.slices_SortFunc enc h1c cf hO 32 #[] g 0 cap d w (enters_of Try.func32 (by kernel_rfl) rfl) hcmp.lays hH hgl (by omega)
      rw [hd0] at hcall
      rw [hn]
      refine hcall.mono ?_
      rintro e w' ⟨rfl, d', q, os, ⟨hp1, -, hp3⟩, hsd, rfl⟩
      have hd's : d'.size = n := by omega
      have hdl : d'.toList.Perm d.toList := by
        have e1 : d'.extract 0 n = d' := extract_all d' hd's
        have e2 : d.extract 0 n = d := extract_all d hd0
        rw [e1, e2] at hp3; exact hp3
      obtain ⟨cur', c1, c2, c3⟩ := sortWorld_row enc w g q d' os hg (by omega)
      have hmapid : d.toList.map row = ll := by
        subst hd
        apply List.ext_getElem
        · simp; omega
        · intro i a b; simp [row]
      refine ⟨rfl, d'.toList.map row, ?_, ?_, ?_, rfl, rfl, rfl, sortWorld_size _ _ _ _ _ _, fun k hk hne' => sortWorld_far enc w g 0 q d' os (fun e => hne' (by rw [e]; rfl)) hk⟩
      · have := hdl.map row
        rw [hmapid] at this; exact this
      · rw [List.pairwise_map, List.pairwise_iff_getElem]
        intro i j hi hj hij
        have hi' : i < n := by simpa [hd's] using hi
        have hj' : j < n := by simpa [hd's] using hj
        have := hsd i j (Nat.zero_le _) hij (by omega)
        have ei : d'[i]! = d'.toList[i] := by simp [hd's, hi']
        have ej : d'[j]! = d'.toList[j] := by simp [hd's, hj']
        rw [ei, ej] at this
        simp only [ltOf, cf, decide_eq_false_iff_not] at this
        show (row _).headD 0 ≤ (row _).headD 0
        have h9 : ¬ (hdI d'.toList[j] - hdI d'.toList[i] < 0) := this
        show hdI d'.toList[i] ≤ hdI d'.toList[j]
        omega
      · refine ⟨d'.toList.map enc, ?_, by simp, fun i a b => ?_⟩
        · rw [show (d'.toList.map enc).length = n by simp [hd's]]
          refine ⟨by simp [hd's], .inr ⟨g, cap, cur', rfl, hB, c1, h1, h2, by rw [c2]; exact h3, ?_⟩⟩
          rw [hd's] at c3; simpa using c3
        · simp only [List.getElem_map]
          obtain ⟨x, hx⟩ : ∃ x, d'.toList[i]'(by simpa using a) = x := ⟨_, rfl⟩
          rw [hx]
          obtain ⟨hoi, hob⟩ := hvs x.val (hvi x) (hli x)
          refine ⟨hoi.block fun b e => ?_, fun b e => ?_⟩
          · refine sortWorld_far enc w g 0 q d' os (fun e2 => ?_) (hoi.1.lt b e).2
            subst e2
            exact hob b e rfl
          · exact hob b e
end Go.Proofs.Ytlobiebmaheflaa
