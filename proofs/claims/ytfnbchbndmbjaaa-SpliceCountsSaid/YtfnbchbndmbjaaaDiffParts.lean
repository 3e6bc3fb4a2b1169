/- The program's Diff: its four closures, and the splices that they collect. -/
import Derived.Test.YtfnbchbndmbjaaaSpls
namespace Go.Proofs.Ytfnbchbndmbjaaa
open Go.RowKit
set_option linter.unusedVariables false

/-- The four captured variables, and what they hold. -/
structure DSt (S : Nat) (w : World) (v : Value) (ps : List (Spl × Value)) (at_ : Nat) (op : Bool) : Prop where
  out : Box1 w S v 27
  pos : Box1 w (S + 1) (.int .i64 at_) 3
  opn : Box1 w (S + 2) (.bool op) 4
  fn : Box1 w (S + 3) (.func (.func 28) #[] #[.pointer (some ⟨S + 2, 0, none⟩), .pointer (some ⟨S, 0, none⟩), .pointer (some ⟨S + 1, 0, none⟩)]) 40
  own : OwnPs w (S + 4) v ps
def foot (S : Nat) (v : Value) (ps : List (Spl × Value)) (k : Nat) : Prop := (S ≤ k ∧ k < S + 4) ∨ v.ownBlock = some k ∨ ∃ p ∈ ps, p.2.ownBlock = some k

theorem pushed_foot {S : Nat} {w : World} {v v1 : Value} {ps : List (Spl × Value)} {y : Nat} (hat : v1.ownBlock = v.ownBlock ∨ ∃ k, v1.ownBlock = some k ∧ w.heap.size ≤ k) (k : Nat)
    (h : foot S v1 (ps ++ [(⟨y, 0, []⟩, .slice none 0 0)]) k) : foot S v ps k ∨ w.heap.size ≤ k := by
  rcases h with h | h | ⟨p, hp, h⟩
  · exact .inl (.inl h)
  · rcases hat with e | ⟨k', e, hk'⟩
    · rw [e] at h; exact .inl (.inr (.inl h))
    · rw [e] at h; injection h with h; subst h; exact .inr hk'
  · rcases List.mem_append.1 hp with hp | hp
    · exact .inl (.inr (.inr ⟨p, hp, h⟩))
    · rw [List.mem_singleton] at hp; subst hp; cases h

set_option maxHeartbeats 400000 in
theorem last_open (S : Nat) (w : World) (g c at_ : Nat) (ps : List (Spl × Value)) (p : Spl × Value) (h : DSt S w (.slice (some ⟨g, 0, none⟩) (ps.length + 1) c) (ps ++ [p]) at_ true) (hl : ps.length < 1099511627776) :
    Calls Try.prog 28 #[.pointer (some ⟨S + 2, 0, none⟩), .pointer (some ⟨S, 0, none⟩), .pointer (some ⟨S + 1, 0, none⟩)] w fun e w' => e = .returned (.pointer (some ⟨g, ps.length * 3, none⟩)) ∧ w = w' := by
  have c1 := h.out.cell
  have c2 := h.opn.cell
  have hcap : (ps.length : Int) < (ps.length : Int) + 1 := by omega
  clear h
  go_enter Try.func28, Try.ntmps28
  go_wp2
  go_ret
  exact ⟨rfl, rfl⟩

theorem turn_mk {S : Nat} {w w' : World} {v v' : Value} {ps ps' : List (Spl × Value)} (h0 : w'.os = w.os) (h1 : w'.tape = w.tape) (h2 : w'.output = w.output) (h3 : w.heap.size ≤ w'.heap.size)
    (h4 : ∀ k, k < w.heap.size → ¬ foot S v ps k → w'.heap[k]? = w.heap[k]?) (h5 : ∀ k, foot S v' ps' k → foot S v ps k ∨ w.heap.size ≤ k) : Turn (foot S v ps) (foot S v' ps') w w' := ⟨h0, h1, h2, h3, h4, h5⟩

set_option maxHeartbeats 400000 in
theorem last_closed (S : Nat) (w : World) (v : Value) (at_ : Nat) (ps : List (Spl × Value)) (h : DSt S w v ps at_ false) (hl : ps.length < 1099511627776) :
    Calls Try.prog 28 #[.pointer (some ⟨S + 2, 0, none⟩), .pointer (some ⟨S, 0, none⟩), .pointer (some ⟨S + 1, 0, none⟩)] w fun e w' => ∃ g c, e = .returned (.pointer (some ⟨g, ps.length * 3, none⟩)) ∧
      DSt S w' (.slice (some ⟨g, 0, none⟩) (ps.length + 1) c) (ps ++ [(⟨at_, 0, []⟩, .slice none 0 0)]) at_ true ∧ Turn (foot S v ps) (foot S (.slice (some ⟨g, 0, none⟩) (ps.length + 1) c) (ps ++ [(⟨at_, 0, []⟩, .slice none 0 0)])) w w' := by
  have c1 := h.out.cell
  have c2 := h.opn.cell
  have c3 := h.pos.cell
  have HD := Lib.hid h
  have hsz := h.fn.lt
  clear h
  have hown := HD.out.own
  go_enter Try.func28, Try.ntmps28
  go_wp2_with (at_builtin; go_must (refine wpList_pushS hown (by omega) hl rfl (.tmp 6) (.tmp 9) 27 1 rfl Try.underlying27 rfl rfl ?_); intro v' w1 hown1 hg1 hat1; (
    have hkeep : ∀ k, k < S + 4 → w1.heap[k]? = w.heap[k]? := fun k hk => hg1.block k (by omega) (fun e => by have := (hown.row.lt k e.symm).1; omega)
    have HK := Lib.hid hkeep; clear hkeep
    have b1 := Lib.hid (HD.out.out.block (HK.out S (by omega)))
    have b2 := Lib.hid (HD.out.opn.block (HK.out (S + 2) (by omega)))
    obtain ⟨g, c, e1, _, _⟩ := hown1.row.form (by simp)
    obtain ⟨L1, hL1⟩ : ∃ L, (ps ++ [((⟨at_, 0, []⟩ : Spl), Value.slice none 0 0)]).length = L := ⟨_, rfl⟩
    rw [hL1] at e1
    have hL2 : L1 = ps.length + 1 := by rw [← hL1]; simp
    subst hL2
    subst e1
    clear hL1
    have d1 := b1.out.cell
    have f1 := b1.out.frozen
    have f2 := b2.out.frozen
    have r1 : ∀ u, (w1.setCell ⟨S, 0, none⟩ u).cell? ⟨S + 2, 0, none⟩ = some (.bool false) := fun u => (b2.out.far (q := ⟨S, 0, none⟩) (by simp) u).cell
    have r2 : ∀ u u', ((w1.setCell ⟨S, 0, none⟩ u).setCell ⟨S + 2, 0, none⟩ u').cell? ⟨S, 0, none⟩ = some u := fun u u' => ((b1.out.set u).far (q := ⟨S + 2, 0, none⟩) (by simp) u').cell
    have hcap : (ps.length : Int) < (ps.length : Int) + 1 := by omega))
  go_ret
  have b3 := HD.out.pos.block (HK.out (S + 1) (by omega))
  have b4 := HD.out.fn.block (HK.out (S + 3) (by omega))
  refine ⟨g, c, rfl, ⟨(b1.out.set _).far (by simp) _, (b3.far (by simp) _).far (by simp) _, (b2.out.far (by simp) _).set _, (b4.far (by simp) _).far (by simp) _, ?_⟩, turn_mk hg1.os hg1.tape hg1.output ?_ (fun k hk hn => ?_) (fun k hk => pushed_foot hat1 k hk)⟩
  · refine hown1.frame (fun k hk => ?_) (fun p hp k hk => ?_)
    · have := (hown1.row.lt k hk).1
      rw [Below.heap_setCell _ _ _ _ (by simp; omega), Below.heap_setCell _ _ _ _ (by simp; omega)]
    · have := ((hown1.adds p hp).1.lt k hk).1
      rw [Below.heap_setCell _ _ _ _ (by simp; omega), Below.heap_setCell _ _ _ _ (by simp; omega)]
  · rw [setSize, setSize]; exact hg1.size
  · have h1 : ¬ (S ≤ k ∧ k < S + 4) := fun h => hn (.inl h)
    rw [Below.heap_setCell _ _ _ _ (by simp; omega), Below.heap_setCell _ _ _ _ (by simp; omega)]
    exact hg1.block k hk (fun e => hn (.inr (.inl e.symm)))

/-- The function that the two others call: it opens a splice if none is open, and hands back where the last one lies. -/
theorem last_any (S : Nat) (w : World) (v : Value) (at_ : Nat) (op : Bool) (ps : List (Spl × Value)) (h : DSt S w v ps at_ op) (hop : op = true → ps ≠ []) (hl : ps.length < 4096) :
    Calls Try.prog 28 #[.pointer (some ⟨S + 2, 0, none⟩), .pointer (some ⟨S, 0, none⟩), .pointer (some ⟨S + 1, 0, none⟩)] w fun e w' => ∃ g c qs p, (if op then ps else ps ++ [(⟨at_, 0, []⟩, .slice none 0 0)]) = qs ++ [p] ∧ qs.length < 4096 ∧
      e = .returned (.pointer (some ⟨g, qs.length * 3, none⟩)) ∧ DSt S w' (.slice (some ⟨g, 0, none⟩) (qs.length + 1) c) (qs ++ [p]) at_ true ∧ Turn (foot S v ps) (foot S (.slice (some ⟨g, 0, none⟩) (qs.length + 1) c) (qs ++ [p])) w w' := by
  cases op with
  | true =>
    have hne := hop rfl
    have e := (List.dropLast_concat_getLast hne).symm
    obtain ⟨qs, hqs⟩ : ∃ qs, qs = ps.dropLast := ⟨_, rfl⟩
    obtain ⟨p, hp⟩ : ∃ p, p = ps.getLast hne := ⟨_, rfl⟩
    rw [← hqs, ← hp] at e
    clear hqs hp
    subst e
    obtain ⟨g, c, e1, _, _⟩ := h.own.row.form (by simp)
    have hql : (qs ++ [p]).length = qs.length + 1 := by simp
    rw [hql] at e1 hl
    subst e1
    refine (last_open S w g c at_ qs p h (by omega)).mono ?_
    rintro e w' ⟨rfl, rfl⟩
    exact ⟨g, c, qs, p, rfl, by omega, rfl, h, Turn.refl _ _⟩
  | false =>
    refine (last_closed S w v at_ ps h (by omega)).mono ?_
    rintro e w' ⟨g, c, rfl, h1, h2⟩
    exact ⟨g, c, ps, _, rfl, hl, rfl, h1, h2⟩

def opened (ps : List (Spl × Value)) (at_ : Nat) (op : Bool) : List (Spl × Value) := if op then ps else ps ++ [(⟨at_, 0, []⟩, .slice none 0 0)]
def DelPost (S : Nat) (w : World) (v : Value) (ps : List (Spl × Value)) (at_ : Nat) (op : Bool) (e : Ending) (w' : World) : Prop :=
  (∃ r, e = .returned r) ∧ ∃ g c qs s a, opened ps at_ op = qs ++ [(s, a)] ∧
      DSt S w' (.slice (some ⟨g, 0, none⟩) (qs.length + 1) c) (qs ++ [({ s with drop := s.drop + 1 }, a)]) at_ true ∧ Turn (foot S v ps) (foot S (.slice (some ⟨g, 0, none⟩) (qs.length + 1) c) (qs ++ [({ s with drop := s.drop + 1 }, a)])) w w'
def InsPost (S : Nat) (w : World) (v : Value) (ps : List (Spl × Value)) (at_ : Nat) (op : Bool) (n : Int) (e : Ending) (w' : World) : Prop :=
  (∃ r, e = .returned r) ∧ ∃ g c qs s a a', opened ps at_ op = qs ++ [(s, a)] ∧
      DSt S w' (.slice (some ⟨g, 0, none⟩) (qs.length + 1) c) (qs ++ [({ s with add := s.add ++ [n] }, a')]) (at_ + 1) true ∧ Turn (foot S v ps) (foot S (.slice (some ⟨g, 0, none⟩) (qs.length + 1) c) (qs ++ [({ s with add := s.add ++ [n] }, a')])) w w'

theorem foot_set {S g c : Nat} {qs : List (Spl × Value)} {s s' : Spl} {a : Value} (k : Nat) (h : foot S (.slice (some ⟨g, 0, none⟩) (qs.length + 1) c) (qs ++ [(s', a)]) k) : foot S (.slice (some ⟨g, 0, none⟩) (qs.length + 1) c) (qs ++ [(s, a)]) k := by
  rcases h with h | h | ⟨p, hp, h⟩
  · exact .inl h
  · exact .inr (.inl h)
  · rcases List.mem_append.1 hp with hp | hp
    · exact .inr (.inr ⟨p, List.mem_append_left _ hp, h⟩)
    · rw [List.mem_singleton] at hp; subst hp
      exact .inr (.inr ⟨(s, a), by simp, h⟩)

set_option maxHeartbeats 400000 in
/-- A deletion. -/
theorem del_any (S : Nat) (w : World) (v : Value) (at_ : Nat) (op : Bool) (ps : List (Spl × Value)) (n : Int) (h : DSt S w v ps at_ op) (hop : op = true → ps ≠ []) (hl : ps.length < 4096) (hd : ∀ p ∈ ps, p.1.drop < 4096) :
    Calls Try.prog 30 #[.int .i64 n, .pointer (some ⟨S + 3, 0, none⟩)] w (DelPost S w v ps at_ op) := by
  have c1 := h.fn.cell
  have HC := Lib.hid (last_any S w v at_ op ps h hop hl)
  clear h
  go_enter Try.func30, Try.ntmps30
  go_wp2_with fail
  refine HC.out.mono ?_
  rintro e w1 ⟨g, c, qs, ⟨s, a⟩, hqs, hql, rfl, h1, hT⟩
  have H1 := Lib.hid h1
  have HT := Lib.hid hT
  have HQ := Lib.hid hqs
  have hrow := h1.own.row
  rw [show (qs ++ [(s, a)]).length = qs.length + 1 by simp] at hrow
  have hcl := hrow.cellAt (qs.length * 3 + 1) (by omega)
  have hf := hrow.frozenAt (qs.length * 3 + 1)
  have hv : (pcells (qs ++ [(s, a)]))[qs.length * 3 + 1]? = some (.int .i64 s.drop) := by
    rw [pcells_append, ← pcells_len qs, List.getElem?_append_right (by omega)]
    simp [pcells, pcell]
  rw [hv] at hcl
  have hsd : s.drop < 4096 := by
    have hm : (s, a) ∈ (if op then ps else ps ++ [((⟨at_, 0, []⟩ : Spl), Value.slice none 0 0)]) := by rw [hqs]; simp
    cases op with
    | true => exact hd _ hm
    | false =>
      rcases List.mem_append.1 hm with hm | hm
      · exact hd _ hm
      · simp at hm; rw [hm.1]; show (0 : Nat) < 4096; omega
  clear h1 hT hqs hrow hv
  go_wp2
  go_end0
  have h1 := H1.out
  have hlt := (h1.own.row.lt g rfl).2
  have hge := (h1.own.row.lt g rfl).1
  refine ⟨⟨_, rfl⟩, g, c, qs, s, a, HQ.out, ⟨h1.out.far (by simp; omega) _, h1.pos.far (by simp; omega) _, h1.opn.far (by simp; omega) _, h1.fn.far (by simp; omega) _, h1.own.dropped⟩, HT.out.trans (turn_mk rfl rfl rfl (by rw [setSize]; exact Nat.le_refl _) (fun k hk hn => Below.heap_setCell _ _ _ _ (fun e => hn (.inr (.inl (by rw [show k = g from e]; rfl))))) (fun k hk => .inl (foot_set k hk)))⟩

set_option maxHeartbeats 400000 in
/-- An insertion. -/
theorem ins_any (S : Nat) (w : World) (v : Value) (at_ : Nat) (op : Bool) (ps : List (Spl × Value)) (n : Int) (hn : -9223372036854775808 ≤ n ∧ n ≤ 9223372036854775807) (h : DSt S w v ps at_ op) (hop : op = true → ps ≠ []) (hl : ps.length < 4096) (hd : ∀ p ∈ ps, p.1.add.length < 4096) (ha : at_ < 4096) :
    Calls Try.prog 31 #[.int .i64 n, .pointer (some ⟨S + 3, 0, none⟩), .pointer (some ⟨S + 1, 0, none⟩)] w (InsPost S w v ps at_ op n) := by
  have c1 := h.fn.cell
  have HC := Lib.hid (last_any S w v at_ op ps h hop hl)
  clear h
  go_enter Try.func31, Try.ntmps31
  go_wp2_with fail
  refine HC.out.mono ?_
  rintro e w1 ⟨g, c, qs, ⟨s, a⟩, hqs, hql, rfl, h1, hT⟩
  have H1 := Lib.hid h1
  have HT := Lib.hid hT
  have HQ := Lib.hid hqs
  have hrow := h1.own.row
  rw [show (qs ++ [(s, a)]).length = qs.length + 1 by simp] at hrow
  have hcl := hrow.cellAt (qs.length * 3 + 2) (by omega)
  have hv : (pcells (qs ++ [(s, a)]))[qs.length * 3 + 2]? = some a := by
    rw [pcells_append, ← pcells_len qs, List.getElem?_append_right (by omega)]
    simp [pcells, pcell]
  rw [hv] at hcl
  have hsd : s.add.length < 4096 := by
    have hm : (s, a) ∈ (if op then ps else ps ++ [((⟨at_, 0, []⟩ : Spl), Value.slice none 0 0)]) := by rw [hqs]; simp
    cases op with
    | true => exact hd _ hm
    | false =>
      rcases List.mem_append.1 hm with hm | hm
      · exact hd _ hm
      · simp at hm; rw [hm.1]; show (0 : Nat) < 4096; omega
  have hown := h1.own.adds (s, a) (by simp)
  have hB : S + 4 ≤ w1.heap.size := by have := h1.fn.lt; omega
  have hsd2 : s.add.length < 1099511627776 := by omega
  have HF := Lib.hid (hrow.frozenAt (qs.length * 3 + 2))
  clear h1 hT hqs hv hrow
  go_wp2_with (at_builtin; go_must (refine wpList_push hown hB hn hsd2 rfl (.tmp 11) (.tmp 13) 22 1 rfl Try.underlying22 rfl rfl ?_); intro a' w2 hown2 hg2 hat2; (
    have hgb : w2.heap[g]? = w1.heap[g]? := hg2.block g (H1.out.own.row.lt g rfl).2 (fun e => ints_ne_row H1.out.own.row hown e.symm rfl)
    have HG := Lib.hid hgb; clear hgb
    have k1 : w2.cell? ⟨g, qs.length * 3 + 2, none⟩ = some a := (World.cell?_of_block (w := w1) (a := ⟨g, qs.length * 3 + 2, none⟩) HG.out).trans hcl
    have k2 : w2.frozen? ⟨g, qs.length * 3 + 2, none⟩ = false := (World.frozen?_of_block (w := w1) (a := ⟨g, qs.length * 3 + 2, none⟩) HG.out).trans HF.out
    have HK := Lib.hid (show ∀ k, k < S + 4 → w2.heap[k]? = w1.heap[k]? from fun k hk => hg2.block k (by omega) (fun e => by have := (hown.1.lt k e.symm).1; omega))
    have HG1 := Lib.hid (H1.out.own.row.lt g rfl)
    have b1 := Lib.hid (H1.out.pos.block (HK.out (S + 1) (by omega)))
    have f1 := b1.out.frozen
    have r1 : ∀ u, (w2.setCell ⟨g, qs.length * 3 + 2, none⟩ u).cell? ⟨S + 1, 0, none⟩ = some (.int .i64 at_) := fun u => (b1.out.far (q := ⟨g, qs.length * 3 + 2, none⟩) (by have := HG1.out.1; simp; omega) u).cell
    obtain ⟨A1, d1, e1, _, _, _⟩ := hown2.ints
    obtain ⟨L1, hL1⟩ : ∃ L, (s.add ++ [n]).length = L := ⟨_, rfl⟩
    rw [hL1] at e1
    subst e1
    clear hL1))
  go_end0
  have h1 := H1.out
  have hge := HG1.out.1
  refine ⟨⟨_, rfl⟩, g, c, qs, s, a, .slice A1 L1 d1, HQ.out, ⟨((h1.out.block (HK.out S (by omega))).far (by simp; omega) _).far (by simp) _, (b1.out.far (by simp; omega) _).set _, ((h1.opn.block (HK.out (S + 2) (by omega))).far (by simp; omega) _).far (by simp) _,
    ((h1.fn.block (HK.out (S + 3) (by omega))).far (by simp; omega) _).far (by simp) _, ?_⟩, HT.out.trans (turn_mk hg2.os hg2.tape hg2.output (by rw [setSize, setSize]; exact hg2.size) (fun k hk hn => ?_) (fun k hk => ?_))⟩
  · refine (h1.own.added hown2 hg2 hat2).frame (fun k hk => Below.heap_setCell _ _ _ _ ?_) (fun p hp k hk => Below.heap_setCell _ _ _ _ ?_)
    · have e : g = k := by simpa [Value.ownBlock] using hk
      simp; omega
    · have := (((h1.own.added hown2 hg2 hat2).adds p hp).1.lt k hk).1
      simp; omega
  · have hk1 : k ≠ S + 1 := fun e => hn (.inl (by omega))
    have hk2 : k ≠ g := fun e => hn (.inr (.inl (by rw [e]; rfl)))
    rw [Below.heap_setCell _ _ _ _ hk1, Below.heap_setCell _ _ _ _ hk2]
    exact hg2.block k hk (fun e => hn (.inr (.inr ⟨(s, a), by simp, e.symm⟩)))
  · rcases hk with h | h | ⟨p, hp, h⟩
    · exact .inl (.inl h)
    · exact .inl (.inr (.inl h))
    · rcases List.mem_append.1 hp with hp | hp
      · exact .inl (.inr (.inr ⟨p, List.mem_append_left _ hp, h⟩))
      · rw [List.mem_singleton] at hp; subst hp
        rcases hat2 with e | ⟨k', e, hk'⟩
        · exact .inl (.inr (.inr ⟨(s, a), by simp, by rw [← e]; exact h⟩))
        · have e2 : some k' = some k := e.symm.trans h
          injection e2 with e2
          subst e2
          exact .inr hk'

set_option maxHeartbeats 400000 in
/-- A kept element. -/
theorem pass_any (S : Nat) (w : World) (v : Value) (at_ : Nat) (op : Bool) (ps : List (Spl × Value)) (n : Int) (h : DSt S w v ps at_ op) (ha : at_ < 4096) :
    Calls Try.prog 29 #[.int .i64 n, .pointer (some ⟨S + 1, 0, none⟩), .pointer (some ⟨S + 2, 0, none⟩)] w fun e w' => (∃ r, e = .returned r) ∧ DSt S w' v ps (at_ + 1) false ∧ Turn (foot S v ps) (foot S v ps) w w' := by
  have c1 := h.pos.cell
  have f1 := h.pos.frozen
  have f2 := h.opn.frozen
  have r1 : ∀ u, (w.setCell ⟨S + 1, 0, none⟩ u).cell? ⟨S + 2, 0, none⟩ = some (.bool op) := fun u => (h.opn.far (q := ⟨S + 1, 0, none⟩) (by simp) u).cell
  have H := Lib.hid h; clear h
  go_enter Try.func29, Try.ntmps29
  go_wp2
  go_end0
  have h := H.out
  refine ⟨⟨_, rfl⟩, ⟨(h.out.far (by simp) _).far (by simp) _, (h.pos.set _).far (by simp) _, (h.opn.far (by simp) _).set _, (h.fn.far (by simp) _).far (by simp) _, h.own.frame (fun k hk => ?_) (fun p hp k hk => ?_)⟩,
    turn_mk rfl rfl rfl (by rw [setSize, setSize]; exact Nat.le_refl _) (fun k hk hn => ?_) (fun k hk => .inl hk)⟩
  · have := (h.own.row.lt k hk).1
    rw [Below.heap_setCell _ _ _ _ (by simp; omega), Below.heap_setCell _ _ _ _ (by simp; omega)]
  · have := ((h.own.adds p hp).1.lt k hk).1
    rw [Below.heap_setCell _ _ _ _ (by simp; omega), Below.heap_setCell _ _ _ _ (by simp; omega)]
  · have h1 : ¬ (S ≤ k ∧ k < S + 4) := fun h => hn (.inl h)
    rw [Below.heap_setCell _ _ _ _ (by simp; omega), Below.heap_setCell _ _ _ _ (by simp; omega)]
end Go.Proofs.Ytfnbchbndmbjaaa
