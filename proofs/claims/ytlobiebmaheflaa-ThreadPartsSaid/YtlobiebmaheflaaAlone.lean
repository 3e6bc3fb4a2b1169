/- Contracts of alone and New. -/
import Derived.Test.YtlobiebmaheflaaJoin
import Derived.Deep.RegionHeld3
namespace Go.Proofs.Ytlobiebmaheflaa
open Go.RowKit
set_option linter.unusedVariables false

/-- The world behind alone. -/
def aloneW (w : World) (x : Nat) : World := ((w.setCell ⟨x, 2, none⟩ (.pointer (some ⟨x, 0, none⟩))).setCell ⟨x, 3, none⟩ (.slice (some ⟨w.heap.size, 0, none⟩) 1 1)).alloc (.cells #[.pointer (some ⟨x, 0, none⟩)] 59)
def AlonePost (x : Nat) (i tv : Value) (w : World) (e : Ending) (w' : World) : Prop :=
  e = .returned (.tuple #[]) ∧ w'.heap.size = w.heap.size + 1 ∧ w'.heap[w.heap.size]? = some (.cells #[ptr x] 59 (0, 0)) ∧ w'.heap[x]? = some (.cells #[i, tv, ptr x, .slice (some ⟨w.heap.size, 0, none⟩) 1 1] 64 (0, 0)) ∧ Off (fun b => b = x) w w'

theorem alone_any (t : Value) (x : Nat) (i tv u gv : Value) (w : World) (hb : w.heap[x]? = some (.cells #[i, tv, u, gv] 64 (0, 0))) :
    Calls Try.prog 34 #[t, .pointer (some ⟨x, 0, none⟩)] w (AlonePost x i tv w) := by
  have hx := heap_lt hb
  have HB := Lib.hid hb
  have h2 : w.cell? ⟨x, 2, none⟩ = some u := by simp [World.cell?, hb]
  have h3 : w.cell? ⟨x, 3, none⟩ = some gv := by simp [World.cell?, hb]
  have f : ∀ j, w.frozen? ⟨x, j, none⟩ = false := fun j => by simp [World.frozen?, hb]
  have f2 := f 2
  have f3 := f 3
  clear f hb
  go_enter Try.func34, Try.ntmps34
  go_wp2
  go_end0
  have e1 := heap_setCell_same w x 2 _ 64 (ptr x) HB.out
  have e2 := heap_setCell_same (w.setCell ⟨x, 2, none⟩ (ptr x)) x 3 _ 64 (.slice (some ⟨w.heap.size, 0, none⟩) 1 1) e1
  have hs : ((w.setCell ⟨x, 2, none⟩ (ptr x)).setCell ⟨x, 3, none⟩ (.slice (some ⟨w.heap.size, 0, none⟩) 1 1)).heap.size = w.heap.size := by simp [World.setCell]
  refine ⟨rfl, ?_, ?_, ?_, (((Off.refl (fun b => b = x) w).setCell (p := ⟨x, 2, none⟩) (.inl rfl) _).setCell (p := ⟨x, 3, none⟩) (.inl rfl) _).alloc _⟩
  · simp [World.setCell]
  · have := (MapKept.heap_alloc ((w.setCell ⟨x, 2, none⟩ (ptr x)).setCell ⟨x, 3, none⟩ (.slice (some ⟨w.heap.size, 0, none⟩) 1 1)) (.cells #[ptr x] 59)).1
    rw [hs] at this; exact this
  · exact ((MapKept.heap_alloc _ _).2 x (by simp [World.setCell]; exact hx)).trans e2

section
variable {tag : Nat → Tag} {hd N T : Nat} {nm : Int → Option Nat} {live ok : Nat → Prop} {num : Nat → Int} {tm : Nat → List Tie} {up root dep : Nat → Nat} {grp : Nat → List Nat} {tl : Tie → List Nat} {c : Nat}
theorem ownsRow_one {w : World} {b : Nat} {v : Value} {t : TypeId} (h : w.heap[b]? = some (.cells #[v] t (0, 0))) : w.ownsRow 0 t 1 (.slice (some ⟨b, 0, none⟩) 1 1) 1 [v] :=
  ⟨rfl, .inr ⟨b, 1, _, rfl, Nat.zero_le _, h, Nat.le_refl _, by simp only [maxLen]; omega, rfl, rfl⟩⟩
/-- A live node alone. -/
theorem alone_live {w w' : World} {e : Ending} {x : Nat} (hM : Mem w tag hd N T nm live ok num tm up grp tl c) (hx : live x) {i tv u gv : Value} (hb : w.heap[x]? = some (.cells #[i, tv, u, gv] 64 (0, 0))) (h : AlonePost x i tv w e w') :
    Mem w' (upd tag w.heap.size (tGrp x)) hd N T nm live (fun g => ok g ∨ g = x) num tm (upd up x x) (upd grp x [x]) tl c := by
  obtain ⟨-, hs, hn, hxx, hO⟩ := h
  have hxl := heap_lt hb
  have h1 := (hM.less (ok' := fun g => ok g ∧ g ≠ x) fun g _ h => h.1).off (w' := w.alloc (.cells #[ptr x] 59)) ((Off.refl (fun _ => False) w).alloc _) fun _ h => h.elim
  have h2 := h1.retag (x := x) (b := w.heap.size) (fun h => h.2 rfl) (.inr (hM.fresh _ (Nat.le_refl _))) (by simp)
  have h3 := h2.turn (w' := w') hx (by rw [hs]; simp) (fun b _ hlt hne => by
    rcases Nat.lt_or_ge b w.heap.size with hl | hl
    · rw [hO.block b hl hne, (MapKept.heap_alloc w _).2 b hl]
    · have : b = w.heap.size := by simp at hlt; omega
      subst this
      rw [hn, (MapKept.heap_alloc w _).1]) (up1 := x) (g1 := [x]) (o1 := True) (fun tv' gv' hb' _ => by
    rw [(MapKept.heap_alloc w _).2 x hxl, hb] at hb'
    injection hb' with hb'
    injection hb' with hb'
    have e3 : [i, tv, u, gv] = [Value.int .i64 (num x), tv', ptr (up x), gv'] := congrArg Array.toList hb'
    simp only [List.cons.injEq, and_true] at e3
    obtain ⟨rfl, rfl, -, -⟩ := e3
    exact ⟨_, hxx, fun _ => ⟨ownsRow_one hn, fun b e => by simp [Value.ownBlock] at e; subst e; exact upd_same _ _ _⟩⟩)
  exact h3.less fun g _ ho => by
    by_cases e : g = x
    · simp [e]
    · simp [e] at ho ⊢; exact ho

/-- New. -/
def newTag (s : Nat) (b : Nat) : Tag := if b = s then tNodes else if b = s + 1 then tTies else if b = s + 2 then tHd else tOut
def NewPost (w : World) (e : Ending) (w' : World) : Prop :=
  e = .returned (.pointer (some ⟨w.heap.size + 2, 0, none⟩)) ∧ Mem w' (newTag w.heap.size) (w.heap.size + 2) w.heap.size (w.heap.size + 1) (fun _ => none) (fun _ => False) (fun _ => True) (fun _ => 0) (fun _ => []) id (fun _ => []) (fun _ => []) 0 ∧ Off (fun _ => False) w w'
theorem new_any (w : World) : Calls Try.prog 8 #[] w (NewPost w) := by
  have hmm := @run_makeMap Try.prog
  go_enter Try.func8, Try.ntmps8
  go_wp2
  go_ret
  have s1 : (w.alloc (.map #[] 0)).heap.size = w.heap.size + 1 := by simp
  have s2 : ((w.alloc (.map #[] 0)).alloc (.map #[] 0)).heap.size = w.heap.size + 2 := by simp
  have k1 := MapKept.heap_alloc w (.map #[] 0)
  have k2 := MapKept.heap_alloc (w.alloc (.map #[] 0)) (.map #[] 0)
  have k3 := MapKept.heap_alloc ((w.alloc (.map #[] 0)).alloc (.map #[] 0)) (.cells #[.map (some w.heap.size), .map (some (w.heap.size + 1))] 52)
  rw [s1] at k2
  rw [s2] at k3
  refine ⟨rfl, ⟨k3.1, by simp [newTag, tHd], (NodesMap.made w).keep ?_, by simp [newTag], ⟨_, ((by have := TiesMap.made (w.alloc (.map #[] 0)); rw [s1] at this; exact this) : TiesMap ((w.alloc (.map #[] 0)).alloc (.map #[] 0)) (w.heap.size + 1) _ 0).keep ?_, fun k _ => ⟨World.ownsRow_nil _ _ _ _, fun b e => by cases e⟩⟩, by simp [newTag], fun g h => h.elim, fun b hb => ?_⟩, ((Off.refl _ w).alloc _).alloc _ |>.alloc _⟩
  · rw [k3.2 _ (by omega), k2.2 _ (by omega)]
  · rw [k3.2 _ (by omega)]
  · simp only [newTag]
    simp at hb
    rw [if_neg (by omega), if_neg (by omega), if_neg (by omega)]
end
end Go.Proofs.Ytlobiebmaheflaa
