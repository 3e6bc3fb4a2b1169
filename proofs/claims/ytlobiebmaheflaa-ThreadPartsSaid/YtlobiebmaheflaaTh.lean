/- A set of threads that holds the messages L. -/
import Derived.Test.YtlobiebmaheflaaHas
namespace Go.Proofs.Ytlobiebmaheflaa
open Go.RowKit
set_option linter.unusedVariables false

structure ThP (w : World) (tag : Nat → Tag) (hd : Nat) (nd : List (Msg × Nat)) (c N T : Nat) (nm : Int → Option Nat) (live : Nat → Prop) (num : Nat → Int) (tm : Nat → List Tie) (up root dep : Nat → Nat) (grp : Nat → List Nat) (tl : Tie → List Nat) : Prop where
  whole : Whole w tag hd N T nm live num tm (fun g k => k ∈ tm g) up root dep grp tl c
  bears : Bears nd live (fun g k => k ∈ tm g)
  name : ∀ i g, nm i = some g ↔ ∃ m, (m, g) ∈ nd ∧ m.id = i
  num : ∀ m g, (m, g) ∈ nd → num g = m.id
  fine : ∀ m g, (m, g) ∈ nd → 1 ≤ m.id ∧ m.id ≤ 9223372036854775807 ∧ (tm g).Nodup ∧ (tm g).length ≤ 9 ∧ ∀ k, k ∈ tm g → TieFits k
/-- The set at block hd holds the messages L; c bounds the entries of its maps. -/
def Th (w : World) (tag : Nat → Tag) (hd : Nat) (L : List Msg) (c : Nat) : Prop := ∃ nd N T nm live num tm up root dep grp tl, ThP w tag hd nd c N T nm live num tm up root dep grp tl ∧ msgs nd = L

theorem Whole.off {w w' : World} {tag : Nat → Tag} {hd N T : Nat} {nm : Int → Option Nat} {live : Nat → Prop} {num : Nat → Int} {tm : Nat → List Tie} {eff : Nat → Tie → Prop} {up root dep : Nat → Nat} {grp : Nat → List Nat} {tl : Tie → List Nat} {c : Nat}
    (h : Whole w tag hd N T nm live num tm eff up root dep grp tl c) {F : Nat → Prop} (hO : Off F w w') (hF : ∀ b, F b → tag b = tOut) : Whole w' tag hd N T nm live num tm eff up root dep grp tl c := ⟨h.mem.off hO hF, h.knit⟩
theorem Th.off {w w' : World} {tag : Nat → Tag} {hd : Nat} {L : List Msg} {c : Nat} (h : Th w tag hd L c) {F : Nat → Prop} (hO : Off F w w') (hF : ∀ b, F b → tag b = tOut) : Th w' tag hd L c := by
  obtain ⟨nd, N, T, nm, live, num, tm, up, root, dep, grp, tl, hp, e⟩ := h
  exact ⟨nd, N, T, nm, live, num, tm, up, root, dep, grp, tl, { hp with whole := hp.whole.off hO hF }, e⟩
theorem Th.mono {w : World} {tag : Nat → Tag} {hd : Nat} {L : List Msg} {c c' : Nat} (h : Th w tag hd L c) (hc : c ≤ c') : Th w tag hd L c' := by
  obtain ⟨nd, N, T, nm, live, num, tm, up, root, dep, grp, tl, hp, e⟩ := h
  exact ⟨nd, N, T, nm, live, num, tm, up, root, dep, grp, tl, { hp with whole := ⟨hp.whole.mem.mono hc, hp.whole.knit⟩ }, e⟩
theorem Th.asc {w : World} {tag : Nat → Tag} {hd : Nat} {L : List Msg} {c : Nat} (h : Th w tag hd L c) : Asc L := by
  obtain ⟨nd, N, T, nm, live, num, tm, up, root, dep, grp, tl, hp, rfl⟩ := h
  exact hp.bears.asc
theorem Th.fresh {w : World} {tag : Nat → Tag} {hd : Nat} {L : List Msg} {c : Nat} (h : Th w tag hd L c) : Fresh w tag := by
  obtain ⟨nd, N, T, nm, live, num, tm, up, root, dep, grp, tl, hp, e⟩ := h
  exact hp.whole.mem.fresh

def insP (p : Msg × Nat) : List (Msg × Nat) → List (Msg × Nat)
  | [] => [p]
  | x :: r => if x.1.id < p.1.id then x :: insP p r else p :: x :: r
theorem msgs_insP (p : Msg × Nat) : ∀ nd, msgs (insP p nd) = ins p.1 (msgs nd)
  | [] => rfl
  | x :: r => by
    have ih := msgs_insP p r
    unfold insP msgs
    simp only [List.map_cons]
    unfold ins
    split
    · simp only [List.map_cons]; congr 1
    · rfl
theorem mem_insP {p q : Msg × Nat} : ∀ {nd}, q ∈ insP p nd ↔ q = p ∨ q ∈ nd
  | [] => by simp [insP]
  | x :: r => by
    have ih := mem_insP (p := p) (q := q) (nd := r)
    unfold insP
    split
    · simp only [List.mem_cons, ih]
      constructor
      · rintro (h | h | h) <;> simp [h]
      · rintro (h | h | h) <;> simp [h]
    · simp [List.mem_cons]

/-- Strings in memory. -/
def Strs (w : World) (B : Nat) (A : Option Addr) (n : Nat) (l : List ByteArray) : Prop := n = l.length ∧ (∀ s, s ∈ l → Fits s) ∧ Run w B A (l.map Value.string)
theorem Strs.below {w w' : World} {B n : Nat} {A : Option Addr} {l : List ByteArray} (h : Strs w B A n l) (hb : Below B w w') : Strs w' B A n l := ⟨h.1, h.2.1, h.2.2.below hb⟩
theorem Strs.more {w : World} {B B' n : Nat} {A : Option Addr} {l : List ByteArray} (h : Strs w B A n l) (hB : B ≤ B') : Strs w B' A n l := ⟨h.1, h.2.1, h.2.2.more hB⟩
/-- The identifiers of a message: none empty. -/
def idsOf (own : ByteArray) (refs : List ByteArray) : List ByteArray := (own :: refs).filter fun x => decide (x.toList ≠ [])
/-- One string more among the ties of a node. -/
noncomputable def stepT (base : ByteArray) (TL : List Tie) (x : ByteArray) : List Tie := by
  classical exact if x.toList = [] ∨ (base, x) ∈ TL then TL else TL ++ [(base, x)]
noncomputable def tiesOf (base : ByteArray) (l : List ByteArray) : List Tie := l.foldl (stepT base) []
theorem mem_stepT {base : ByteArray} {TL : List Tie} {x : ByteArray} {k : Tie} : k ∈ stepT base TL x ↔ k ∈ TL ∨ (x.toList ≠ [] ∧ k = (base, x)) := by
  unfold stepT
  by_cases h : x.toList = [] ∨ (base, x) ∈ TL
  · simp only [h, if_true]
    constructor
    · exact .inl
    · rintro (h1 | ⟨h1, rfl⟩)
      · exact h1
      · exact h.resolve_left h1
  · simp only [h, if_false, List.mem_append, List.mem_singleton]
    constructor
    · rintro (h1 | h1)
      · exact .inl h1
      · exact .inr ⟨fun e => h (.inl e), h1⟩
    · rintro (h1 | ⟨_, h1⟩)
      · exact .inl h1
      · exact .inr h1
theorem nodup_stepT {base : ByteArray} {TL : List Tie} {x : ByteArray} (h : TL.Nodup) : (stepT base TL x).Nodup := by
  unfold stepT
  by_cases h1 : x.toList = [] ∨ (base, x) ∈ TL
  · simp only [h1, if_true]; exact h
  · simp only [h1, if_false]
    rw [List.nodup_append]
    refine ⟨h, by simp, fun a ha b hb e => ?_⟩
    rw [List.mem_singleton] at hb
    subst hb; subst e
    exact h1 (.inr ha)
theorem len_stepT {base : ByteArray} {TL : List Tie} {x : ByteArray} : (stepT base TL x).length ≤ TL.length + 1 := by
  unfold stepT
  by_cases h1 : x.toList = [] ∨ (base, x) ∈ TL
  · simp only [h1, if_true]; omega
  · simp only [h1, if_false]; simp
theorem mem_fold {base : ByteArray} {k : Tie} : ∀ (l : List ByteArray) (TL : List Tie), k ∈ l.foldl (stepT base) TL ↔ k ∈ TL ∨ (k.1 = base ∧ k.2 ∈ l ∧ k.2.toList ≠ [])
  | [], TL => by simp
  | x :: r, TL => by
    rw [List.foldl_cons, mem_fold r, mem_stepT]
    constructor
    · rintro ((h | ⟨h1, rfl⟩) | ⟨h1, h2, h3⟩)
      · exact .inl h
      · exact .inr ⟨rfl, by simp, h1⟩
      · exact .inr ⟨h1, by simp [h2], h3⟩
    · rintro (h | ⟨h1, h2, h3⟩)
      · exact .inl (.inl h)
      · rcases List.mem_cons.1 h2 with e | h2
        · exact .inl (.inr ⟨e ▸ h3, Prod.ext h1 e⟩)
        · exact .inr ⟨h1, h2, h3⟩
theorem mem_tiesOf {base : ByteArray} {own : ByteArray} {refs : List ByteArray} {k : Tie} : k ∈ tiesOf base (own :: refs) ↔ k.1 = base ∧ k.2 ∈ idsOf own refs := by
  unfold tiesOf idsOf
  rw [mem_fold, List.mem_filter]
  simp
theorem nodup_fold {base : ByteArray} : ∀ (l : List ByteArray) (TL : List Tie), TL.Nodup → (l.foldl (stepT base) TL).Nodup
  | [], TL, h => h
  | x :: r, TL, h => nodup_fold r _ (nodup_stepT h)
theorem len_fold {base : ByteArray} : ∀ (l : List ByteArray) (TL : List Tie), (l.foldl (stepT base) TL).length ≤ TL.length + l.length
  | [], TL => by simp
  | x :: r, TL => by
    have h1 := len_fold (base := base) r (stepT base TL x)
    have h2 := len_stepT (base := base) (TL := TL) (x := x)
    simp only [List.foldl_cons, List.length_cons]; omega
end Go.Proofs.Ytlobiebmaheflaa
