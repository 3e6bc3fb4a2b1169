/- The program's Keep returns the kept elements of the alignment. -/
import Derived.Test.YtfnbchbndmbjaaaWalk
namespace Go.Proofs.Ytfnbchbndmbjaaa
open Go.RowKit
set_option linter.unusedVariables false

def Box1 (w : World) (p : Nat) (v : Value) (t : TypeId) : Prop := w.heap[p]? = some (.cells #[v] t (0, 0))
theorem Box1.cell {w : World} {p : Nat} {v : Value} {t : TypeId} (h : Box1 w p v t) : w.cell? ⟨p, 0, none⟩ = some v := by
  unfold Box1 at h
  simp [World.cell?, h]
theorem Box1.frozen {w : World} {p : Nat} {v : Value} {t : TypeId} (h : Box1 w p v t) : w.frozen? ⟨p, 0, none⟩ = false := by
  unfold Box1 at h
  simp [World.frozen?, h]
theorem Box1.lt {w : World} {p : Nat} {v : Value} {t : TypeId} (h : Box1 w p v t) : p < w.heap.size := (Array.getElem?_eq_some_iff.1 h).1
theorem Box1.block {w w' : World} {p : Nat} {v : Value} {t : TypeId} (h : Box1 w p v t) (hb : w'.heap[p]? = w.heap[p]?) : Box1 w' p v t := hb.trans h
theorem Box1.set {w : World} {p : Nat} {v : Value} {t : TypeId} (h : Box1 w p v t) (u : Value) : Box1 (w.setCell ⟨p, 0, none⟩ u) p u t := by
  unfold Box1 at h ⊢
  simp [World.setCell, Array.getElem?_modify, h]
theorem Box1.far {w : World} {p : Nat} {v : Value} {t : TypeId} (h : Box1 w p v t) {q : Addr} (hq : p ≠ q.block) (u : Value) : Box1 (w.setCell q u) p v t := h.block (Below.heap_setCell w q u p hq)
theorem Box1.alloc {w : World} {p : Nat} {v : Value} {t : TypeId} (h : Box1 w p v t) (o : Obj) : Box1 (w.alloc o) p v t := h.block (Below.heap_alloc w o p h.lt)
theorem Box1.new (w : World) (v : Value) (t : TypeId) : Box1 (w.alloc (.cells #[v] t)) w.heap.size v t := heap_alloc_new w _

theorem ownsRow_block {w w' : World} {B : Nat} {e : TypeId} {size : Nat} {v : Value} {n : Nat} {xs : List Value} (h : w.ownsRow B e size v n xs) (hb : ∀ k, v.ownBlock = some k → w'.heap[k]? = w.heap[k]?) : w'.ownsRow B e size v n xs := by
  refine ⟨h.1, ?_⟩
  rcases h.2 with h2 | ⟨g, cap, cur, rfl, hB, hg, r⟩
  · exact .inl h2
  · exact .inr ⟨g, cap, cur, rfl, hB, by rw [hb g rfl]; exact hg, r⟩
theorem OwnInts.block {w w' : World} {B : Nat} {v : Value} {acc : List Int} (h : OwnInts w B v acc) (hb : ∀ k, v.ownBlock = some k → w'.heap[k]? = w.heap[k]?) : OwnInts w' B v acc := ⟨ownsRow_block h.1 hb, h.2⟩

def KeepI (p : Nat) (evs : List Ev) (F : Nat → Prop) (w : World) : Prop :=
  ∃ v, Box1 w p v 22 ∧ OwnInts w (p + 1) v (kept evs) ∧ ∀ k, F k ↔ (k = p ∨ v.ownBlock = some k)

theorem kept_len (evs : List Ev) : (kept evs).length ≤ evs.length := by
  induction evs with
  | nil => simp [kept]
  | cons x r ih => cases x <;> simp [kept] <;> omega

set_option maxHeartbeats 400000 in
theorem keep1_any (p : Nat) (evs : List Ev) (F : Nat → Prop) (w : World) (n : Int) (hl : evs.length < 4096) (h : KeepI p evs F w) (hn : -9223372036854775808 ≤ n ∧ n ≤ 9223372036854775807) :
    Calls Try.prog 22 (#[.int .i64 n] ++ #[.pointer (some ⟨p, 0, none⟩)]) w fun e w' => (∃ v, e = .returned v) ∧ ∃ F', KeepI p (evs ++ [.keep n]) F' w' ∧ Turn F F' w w' := by
  obtain ⟨v, hbox, hown, hF⟩ := h
  have HF := Lib.hid hF; clear hF
  have HB := Lib.hid hbox
  have hc := hbox.cell
  have hp := hbox.lt
  clear hbox
  have hkl : (kept evs).length < 1099511627776 := by have := kept_len evs; omega
  show Calls Try.prog 22 #[.int .i64 n, .pointer (some ⟨p, 0, none⟩)] w _
  go_enter Try.func22, Try.ntmps22
  go_wp2_with (at_builtin; go_must (refine wpList_push hown hp hn hkl rfl (.tmp 3) (.tmp 5) 22 1 rfl Try.underlying22 rfl rfl ?_); intro v' w1 hown1 hg1 hat1; have HB1 := Lib.hid (HB.out.block (hg1.block p hp (fun e => by have := hown.base p e.symm; omega))); have hc1 := HB1.out.cell; have hf1 := HB1.out.frozen; obtain ⟨A1, c1, e1, _, _, _⟩ := hown1.ints; obtain ⟨L1, hL1⟩ : ∃ L, (kept evs ++ [n]).length = L := ⟨_, rfl⟩; rw [hL1] at e1; subst e1; clear hL1)
  go_end0
  have hsz := hg1.size
  refine ⟨⟨_, rfl⟩, fun k => k = p ∨ (Value.slice A1 L1 c1).ownBlock = some k, ⟨_, HB1.out.set _, ?_, fun k => Iff.rfl⟩, hg1.os, hg1.tape, hg1.output, by rw [setSize]; exact hsz, fun k hk hnf => ?_, fun k hk => ?_⟩
  · rw [kept_append]
    exact hown1.block fun k hk => Below.heap_setCell _ _ _ _ (fun e => by have h5 := hown1.base k hk; have e' : k = p := e; omega)
  · have h1 : ¬ (k = p ∨ v.ownBlock = some k) := fun hh => hnf ((HF.out k).2 hh)
    rw [Below.heap_setCell _ _ _ _ (fun e => h1 (.inl e))]
    exact hg1.block k hk (fun e => h1 (.inr e.symm))
  · rcases hk with rfl | hk
    · exact .inl ((HF.out k).2 (.inl rfl))
    · rcases hat1 with e | ⟨k', e, hk'⟩
      · rw [e] at hk; exact .inl ((HF.out k).2 (.inr hk))
      · rw [e] at hk; injection hk with hk; subst hk; exact .inr hk'

theorem nothing23 (n : Int) (w : World) : Calls Try.prog 23 #[.int .i64 n] w fun e w' => (∃ v, e = .returned v) ∧ w = w' := by
  go_enter Try.func23, Try.ntmps23
  go_wp2
  go_end0
  exact ⟨⟨_, rfl⟩, rfl⟩
theorem nothing24 (n : Int) (w : World) : Calls Try.prog 24 #[.int .i64 n] w fun e w' => (∃ v, e = .returned v) ∧ w = w' := by
  go_enter Try.func24, Try.ntmps24
  go_wp2
  go_end0
  exact ⟨⟨_, rfl⟩, rfl⟩

theorem keepSinks (p : Nat) : Sinks 4096 22 23 24 #[.pointer (some ⟨p, 0, none⟩)] #[] #[] (KeepI p) where
  keep evs F w n hl h hn := keep1_any p evs F w n hl h hn
  del evs F w n hl h hn := (nothing23 n w).mono fun e w' ⟨he, hw⟩ => ⟨he, F, by
    subst hw
    obtain ⟨v, h1, h2, h3⟩ := h
    exact ⟨⟨v, h1, by rw [kept_append]; simpa [kept] using h2, h3⟩, Turn.refl _ _⟩⟩
  ins evs F w n hl h hn := (nothing24 n w).mono fun e w' ⟨he, hw⟩ => ⟨he, F, by
    subst hw
    obtain ⟨v, h1, h2, h3⟩ := h
    exact ⟨⟨v, h1, by rw [kept_append]; simpa [kept] using h2, h3⟩, Turn.refl _ _⟩⟩
  kc := callable_of Try.func22 (by kernel_rfl) (by kernel_rfl)
  dc := callable_of Try.func23 (by kernel_rfl) (by kernel_rfl)
  ic := callable_of Try.func24 (by kernel_rfl) (by kernel_rfl)
  stays evs F w w' h hb := by
    obtain ⟨v, h1, h2, h3⟩ := h
    exact ⟨v, h1.block (hb.block p h1.lt), h2.block (fun k hk => hb.block k (h2.1.lt k hk).2), h3⟩
  within evs F w h k hk := by
    obtain ⟨v, h1, h2, h3⟩ := h
    rcases (h3 k).1 hk with rfl | hk
    · exact h1.lt
    · exact (h2.1.lt k hk).2

theorem keep_big (A B : Option Addr) (n m c d : Nat) (w : World) (hn : n ≤ maxLen) (hm : m ≤ maxLen) (h : 1024 < n ∨ 1024 < m) :
    Calls Try.prog 12 #[.slice A n c, .slice B m d] w fun e w' => e = .returned (.slice none 0 0) ∧ w = w' := by
  unfold maxLen at hn hm
  by_cases h1 : 1024 < n
  · go_enter Try.func12, Try.ntmps12
    go_wp2
    go_ret
    exact ⟨rfl, rfl⟩
  · have h2 : 1024 < m := by omega
    go_enter Try.func12, Try.ntmps12
    go_wp2
    go_ret
    exact ⟨rfl, rfl⟩

set_option maxHeartbeats 400000 in
theorem keep_any (A B : Option Addr) (n m c d : Nat) (a b : List Int) (w : World) (ha : Ints w w.heap.size A n a) (hb : Ints w w.heap.size B m b) (hn : n ≤ 1024) (hm : m ≤ 1024) (hnc : n ≤ c) (hmd : m ≤ d) (hc63 : c ≤ maxLen) (hd63 : d ≤ maxLen) :
    Calls Try.prog 12 #[.slice A n c, .slice B m d] w fun e w' => ∃ v, e = .returned v ∧ OwnInts w' w.heap.size v (kept (align a b)) ∧ Below w.heap.size w w' := by
  have hmf : ∀ (fn : Fn) (first cap : Array Value) (w : World), (Instr.makeFunc fn first cap).run Try.prog w = .ok (.func fn first cap) w := fun _ _ _ _ => rfl
  have hlen := align_len _ a b (Nat.le_refl _)
  rw [ha.len, hb.len] at hlen
  have HL := Lib.hid hlen; clear hlen
  go_enter Try.func12, Try.ntmps12
  go_wp2_with fail
  have hb0 : Below w.heap.size w (w.alloc (.cells #[.slice none 0 0] 22)) := (Below.refl _ _).alloc (Nat.le_refl _) _
  have hI : KeepI w.heap.size [] (fun k => k = w.heap.size ∨ (Value.slice none 0 0).ownBlock = some k) (w.alloc (.cells #[.slice none 0 0] 22)) :=
    ⟨_, Box1.new _ _ _, OwnInts.nil_ _ _, fun k => Iff.rfl⟩
  refine (walk_any (keepSinks w.heap.size) [] a b (by simp; have := HL.out; omega) _ w.heap.size A B n m c d _ (ha.below hb0) (hb.below hb0) hn hm hnc hmd hc63 hd63 (by simp) (by simp [Value.ownBlock]) hI).mono ?_
  rintro e w1 ⟨⟨r, rfl⟩, F', ⟨v, h1, h2, h3⟩, hT⟩
  have hc1 := h1.cell
  have HT := Lib.hid hT
  have H1 := Lib.hid h1
  clear hT h1
  obtain ⟨A1, c1, rfl, _, _, _⟩ := h2.ints
  go_wp2
  go_ret
  have hT := HT.out
  refine ⟨_, rfl, ?_, hT.os, hT.tape, hT.output, by have := hT.size; simp at this; omega, fun k hk => ?_⟩
  · rw [List.nil_append] at h2
    exact h2.mono (by omega)
  · rw [hT.block k (by simp; omega) (by simp [Value.ownBlock]; omega)]
    exact Below.heap_alloc _ _ _ hk
end Go.Proofs.Ytfnbchbndmbjaaa
