/- Layer 34: entries that a slice owns; building hangs on the entries alone, not on their order. -/
import Derived.Test.YtfinpehbpcckaaaGreatDoorFindsP
namespace Go.Proofs.YtfinpehbpcckaaaGreatDoor
open Go.RowKit
set_option linter.unusedVariables false

theorem ent_info : (Tryz.prog.info? 40).map (fun i => (i.zero, i.size, i.bytes)) = some (some (.agg #[.int .i64 0, .int .i64 0, .string ByteArray.empty]), 3, 32) := by kernel_rfl
def entCells (t : Ent) : List Value := [.int .i64 t.doc, .int .i64 t.field, .string (ba t.text)]
def EntOk (t : Ent) : Prop := SpotFits (t.doc, t.field)
/-- v owns the terms ts, in a row of its own from B on. -/
structure OwnEnts (w : World) (B : Nat) (v : Value) (ts : List Ent) : Prop where
  row : w.ownsRow B 40 3 v ts.length (ts.flatMap entCells)
  each : ∀ t, t ∈ ts → EntOk t
theorem OwnEnts.nil_ (w : World) (B : Nat) : OwnEnts w B (.slice none 0 0) [] := ⟨World.ownsRow_nil _ _ _ _, fun t h => by cases h⟩
theorem OwnEnts.below {w w' : World} {B : Nat} {v : Value} {ts : List Ent} (h : OwnEnts w B v ts) (hb : Below w.heap.size w w') : OwnEnts w' B v ts :=
  ⟨ownsRow_block h.row fun b e => hb.block b (h.row.lt b e).2, h.each⟩
theorem OwnEnts.block {w w' : World} {B : Nat} {v : Value} {ts : List Ent} (h : OwnEnts w B v ts) (hb : ∀ b, v.ownBlock = some b → w'.heap[b]? = w.heap[b]?) : OwnEnts w' B v ts := ⟨ownsRow_block h.row hb, h.each⟩
theorem OwnEnts.more {w : World} {B B' : Nat} {v : Value} {ts : List Ent} (h : OwnEnts w B v ts) (hB : B' ≤ B) : OwnEnts w B' v ts := by
  obtain ⟨⟨h0, h1⟩, h2⟩ := h
  refine ⟨⟨h0, ?_⟩, h2⟩
  rcases h1 with h1 | ⟨g, cap, cur, e, hb, r⟩
  · exact .inl h1
  · exact .inr ⟨g, cap, cur, e, by omega, r⟩
theorem ent_len (ts : List Ent) : (ts.flatMap entCells).length = ts.length * 3 := by induction ts with | nil => rfl | cons a r ih => simp [entCells] at ih ⊢; omega
theorem ent_get : ∀ (ts : List Ent) j (hj : j < ts.length) i (hi : i < 3), (ts.flatMap entCells)[j * 3 + i]? = (entCells ts[j])[i]? := fun ts => by
  induction ts with
  | nil => intro j hj; simp at hj
  | cons a r ih =>
    intro j hj i hi
    cases j with
    | zero =>
      simp only [List.flatMap_cons, List.getElem_cons_zero, Nat.zero_mul, Nat.zero_add]
      rw [List.getElem?_append_left (by simp [entCells]; omega)]
    | succ j =>
      have := ih j (by simpa using hj) i hi
      simp only [List.flatMap_cons, List.getElem_cons_succ]
      rw [List.getElem?_append_right (by simp [entCells]; omega), show (j + 1) * 3 + i - (entCells a).length = j * 3 + i by simp [entCells]; omega]
      exact this
/-- Terms that a slice owns, read. -/
theorem OwnEnts.ents {w : World} {B : Nat} {v : Value} {ts : List Ent} (h : OwnEnts w B v ts) : ∃ A c, v = .slice A ts.length c ∧ ts.length ≤ c ∧ c ≤ maxLen ∧ Ents w w.heap.size A ts.length ts := by
  have h0 := h.row
  rcases h0.2 with ⟨rfl, hn⟩ | ⟨g, cap, cur, rfl, hb, hg, q1, q2, q3⟩
  · have : ts = [] := List.eq_nil_of_length_eq_zero hn
    subst this
    exact ⟨none, 0, rfl, Nat.le_refl _, by simp, rfl, fun k hk => absurd hk (Nat.not_lt_zero _)⟩
  · refine ⟨_, cap, rfl, q1, q2, rfl, fun k hk => ?_⟩
    have hc : ∀ i u, i < 3 → (entCells ts[k])[i]? = some u → w.cell? ⟨g, k * 3 + i, none⟩ = some u := fun i u hi hu => by
      have := h0.cells (g := g) rfl (k * 3 + i) u (by rw [ent_get ts k hk i hi]; exact hu)
      unfold Addr.add at this
      by_cases e0 : k * 3 + i = 0
      · rw [if_pos e0] at this; rw [e0]; exact this
      · rw [if_neg e0] at this; rw [Nat.zero_add] at this; exact this
    have e1 : (Addr.add ⟨g, 0, none⟩ (k * 3)) = ⟨g, k * 3, none⟩ := by
      unfold Addr.add
      split
      · rename_i e0; rw [e0]
      · rw [Nat.zero_add]
    refine ⟨⟨g, 0, none⟩, rfl, by rw [add_block]; exact heap_lt hg, ?_, ?_, ?_, h.each _ (List.getElem_mem hk)⟩
    · rw [e1]; exact hc 0 _ (by omega) rfl
    · rw [e1]; exact hc 1 _ (by omega) rfl
    · rw [e1]; exact hc 2 _ (by omega) rfl
set_option maxRecDepth 100000 in
theorem wpList_pushEnt {ops : Array Oper} {rest : List Oper} {o : Oper} {a : Act} {W : World} {Q : Exit → Act → World → Prop} {B : Nat} {v : Value} {ts : List Ent} {f g : Int} {l : List UInt8} (hT : OwnEnts W B v ts) (hB : B ≤ W.heap.size) (hf : EntOk ⟨f, g, l⟩)
    (hlen : ts.length ≤ 1000000000) (hgd : o.guard = none) (s y : Operand) (c : Nat)
    (ho : o.op = .call { callee := .builtin .append, args := #[s, y], argTypes := #[22, 22] }) (hs : a.eval s = v) (hx : a.eval y = .slice (some ⟨W.heap.size, 0, none⟩) 1 c)
    (h : ∀ v' w', OwnEnts w' B v' (ts ++ [⟨f, g, l⟩]) → W.grownBy w' v.ownBlock → wpList Tryz.prog ops Q rest (a.put o.dst v') w') :
    wpList Tryz.prog ops Q (o :: rest) a (W.alloc (.cells #[.int .i64 f, .int .i64 g, .string (ba l)] 40)) := by
  obtain ⟨i0, hi, hz0, hz1, hz2⟩ := info_parts ent_info
  refine wpList_append_own_at _ hgd s y 22 ho B 40 i0 _ 3 32 Tryz.underlying22 hi hz0 hz1 hz2 rfl (by omega) v ts.length (ts.flatMap entCells) hs (World.ownsRow.alloc hT.row _) ⟨W.heap.size, 0, none⟩ 1 c (entCells ⟨f, g, l⟩) hx rfl (World.news_of_block (MapKept.heap_alloc W _).1) ?_ (by simp only [maxLen]; omega) (by omega) (by simp; omega) ?_
  · intro u hu
    simp only [entCells, List.mem_cons, List.not_mem_nil, or_false] at hu
    rcases hu with rfl | rfl | rfl <;> rfl
  · intro v' w' h1 h2 _ h4
    have h5 := World.grownBy_alloc W (.cells #[.int .i64 f, .int .i64 g, .string (ba l)] 40) v.ownBlock
    have hg : W.grownBy w' v.ownBlock := ⟨h2.os.trans h5.os, h2.tape.trans h5.tape, h2.output.trans h5.output, Nat.le_trans h5.size h2.size, fun k hk hne => (h2.block k (by simp; omega) hne).trans (h5.block k hk hne)⟩
    refine h v' w' ⟨by simpa using h1, fun t ht => ?_⟩ hg
    rcases List.mem_append.1 ht with ht | ht
    · exact hT.each t ht
    · rw [List.mem_singleton] at ht; subst ht; exact hf
theorem placesE_mem {U V : List Ent} (hU : Apart U) (hV : Apart V) (hm : ∀ e, e ∈ U ↔ e ∈ V) (t : Key) (d : Int) : placesE (evsOf U) t d = placesE (evsOf V) t d := by
  by_cases h : ∃ e, e ∈ U ∧ e.doc = d ∧ e.field = t.1
  · obtain ⟨e, he, h1, h2⟩ := h
    have e1 := placesE_in hU he t.2
    have e2 := placesE_in hV ((hm e).1 he) t.2
    rw [h1, h2] at e1 e2
    exact e1.trans e2.symm
  · have e1 : placesE (evsOf U) (t.1, t.2) d = [] := placesE_out (fun e he hh => h ⟨e, he, hh⟩) t.2
    have e2 : placesE (evsOf V) (t.1, t.2) d = [] := placesE_out (fun e he hh => h ⟨e, (hm e).2 he, hh⟩) t.2
    exact e1.trans e2.symm
theorem Built.of_mem {U V : List Ent} {s : Seg} (h : Built U s) (hU : Apart U) (hV : Apart V) (hm : ∀ e, e ∈ U ↔ e ∈ V) : Built V s := by
  refine ⟨h.docs, fun d => ?_, h.terms, fun t => ?_, fun x hx => ?_⟩
  · rw [h.docs_mem]
    exact exists_congr fun e => by rw [hm]
  · rw [h.terms_mem]
    refine exists_congr fun e => and_congr_left fun _ => ?_
    unfold evsOf
    rw [List.mem_flatMap, List.mem_flatMap]
    exact exists_congr fun y => by rw [hm]
  · rw [h.lists x hx]
    congr 1
    unfold postsE
    have : (fun d => !(placesE (evsOf U) (keyT x) d).isEmpty) = fun d => !(placesE (evsOf V) (keyT x) d).isEmpty := funext fun d => by rw [placesE_mem hU hV hm]
    rw [this]
    exact List.map_congr_left fun d _ => by rw [placesE_mem hU hV hm]
/-- No two entries have one document and field. -/
theorem used_all : ∀ es : List Ent, (es.map spotE).Nodup → usedE es = es.filter fun e => countsP e.doc e.field := by
  refine snoc_ind (fun _ => rfl) ?_
  intro r t ih h
  rw [List.map_append, List.nodup_append] at h
  rw [usedE_snoc, ih h.1, List.filter_append]
  unfold useE
  by_cases hc : countsP t.doc t.field = true
  · rw [if_pos]
    · simp [hc]
    · refine ⟨hc, fun hm => ?_⟩
      obtain ⟨x, hx, e⟩ := List.mem_map.1 hm
      exact h.2.2 (spotE x) (List.mem_map.2 ⟨x, (List.mem_filter.1 hx).1, rfl⟩) (spotE t) (by simp) e
  · rw [if_neg (fun hh => hc hh.1)]
    simp [hc]
theorem nodup_of {es : List Ent} (h : ∀ k, k < es.length → ¬ AheadE es k) : (es.map spotE).Nodup := by
  unfold List.Nodup
  rw [List.pairwise_map, List.pairwise_iff_getElem]
  intro i j hi hj hij e
  exact h j hj ⟨i, hij, hi, hj, e⟩
theorem built_back {es : List Ent} {s t : Seg} (h : ∀ k, k < es.length → ¬ AheadE es k) (hs : Built (usedE es) s) (ht : Built (usedE es.reverse) t) : t = s := by
  have h1 := nodup_of h
  have h2 : (es.reverse.map spotE).Nodup := by rw [List.map_reverse]; exact ((List.reverse_perm _).nodup_iff).2 h1
  refine (ht.of_mem (usedE_apart _) (usedE_apart es) fun e => ?_).unique hs
  rw [used_all _ h1, used_all _ h2, List.mem_filter, List.mem_filter, List.mem_reverse]
theorem Few.reverse {es : List Ent} (h : Few es) : Few es.reverse := ⟨by rw [List.length_reverse]; exact h.1, fun e he => h.2 e (List.mem_reverse.1 he)⟩
end Go.Proofs.YtfinpehbpcckaaaGreatDoor
