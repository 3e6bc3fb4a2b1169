/- The plain mathematics of the splice layer: longest common subsequences, the alignment, the splices and their application. No program in sight. -/
import Derived.Test.YtfnbchbndmbjaaaRow
namespace Go.Proofs.Ytfnbchbndmbjaaa
set_option linter.unusedVariables false

def lcs : List Int → List Int → Nat
  | [], _ => 0
  | _ :: _, [] => 0
  | x :: xs, y :: ys => if x = y then lcs xs ys + 1 else max (lcs xs (y :: ys)) (lcs (x :: xs) ys)
termination_by a b => a.length + b.length

theorem lcs_nil_right (a : List Int) : lcs a [] = 0 := by cases a <;> simp [lcs]
theorem lcs_cons_eq (x : Int) (xs ys : List Int) : lcs (x :: xs) (x :: ys) = lcs xs ys + 1 := by rw [lcs, if_pos rfl]
theorem lcs_cons_ne {x y : Int} (h : x ≠ y) (xs ys : List Int) : lcs (x :: xs) (y :: ys) = max (lcs xs (y :: ys)) (lcs (x :: xs) ys) := by rw [lcs, if_neg h]
theorem lcs_le (N : Nat) : ∀ a b : List Int, a.length + b.length ≤ N → lcs a b ≤ a.length ∧ lcs a b ≤ b.length := by
  induction N with
  | zero =>
    intro a b h
    have ha : a = [] := List.eq_nil_of_length_eq_zero (by omega)
    subst ha; simp [lcs]
  | succ N ih =>
    intro a b h
    match a, b with
    | [], b => simp [lcs]
    | x :: xs, [] => simp [lcs]
    | x :: xs, y :: ys =>
      simp only [List.length_cons] at h ⊢
      by_cases e : x = y
      · subst e
        rw [lcs_cons_eq]
        have := ih xs ys (by omega)
        omega
      · rw [lcs_cons_ne e]
        have h1 := ih xs (y :: ys) (by simp only [List.length_cons]; omega)
        have h2 := ih (x :: xs) ys (by simp only [List.length_cons]; omega)
        simp only [List.length_cons] at h1 h2
        omega
theorem lcs_le_left (a b : List Int) : lcs a b ≤ a.length := (lcs_le _ a b (Nat.le_refl _)).1
theorem lcs_le_right (a b : List Int) : lcs a b ≤ b.length := (lcs_le _ a b (Nat.le_refl _)).2

/-- The table's entry: the longest common subsequence of the rests from r and from c. -/
def tab (a b : List Int) (r c : Nat) : Nat := lcs (a.drop r) (b.drop c)
theorem tab_end {a b : List Int} {r c : Nat} (h : r = a.length ∨ c = b.length) : tab a b r c = 0 := by
  unfold tab
  rcases h with h | h
  · subst h; simp [lcs]
  · subst h; simp [lcs_nil_right]
theorem tab_eq {a b : List Int} {r c : Nat} (hr : r < a.length) (hc : c < b.length) (h : gi a r = gi b c) : tab a b r c = tab a b (r + 1) (c + 1) + 1 := by
  unfold tab
  rw [List.drop_eq_getElem_cons hr, List.drop_eq_getElem_cons hc, lcs, if_pos (by rwa [gi_get hr, gi_get hc] at h)]
theorem tab_ne {a b : List Int} {r c : Nat} (hr : r < a.length) (hc : c < b.length) (h : gi a r ≠ gi b c) : tab a b r c = max (tab a b (r + 1) c) (tab a b r (c + 1)) := by
  unfold tab
  rw [List.drop_eq_getElem_cons hr, List.drop_eq_getElem_cons hc, lcs, if_neg (by rwa [gi_get hr, gi_get hc] at h)]
theorem tab_le (a b : List Int) (r c : Nat) : tab a b r c ≤ a.length := by
  have := lcs_le_left (a.drop r) (b.drop c)
  unfold tab
  rw [List.length_drop] at this
  omega

inductive Ev where
  | keep (n : Int)
  | del (n : Int)
  | ins (n : Int)

def align : List Int → List Int → List Ev
  | [], ys => ys.map .ins
  | x :: xs, [] => .del x :: xs.map .del
  | x :: xs, y :: ys => if x = y then .keep x :: align xs ys
      else if lcs (x :: xs) ys ≤ lcs xs (y :: ys) then .del x :: align xs (y :: ys) else .ins y :: align (x :: xs) ys
termination_by a b => a.length + b.length

theorem align_left (a : List Int) : align a [] = a.map .del := by cases a <;> simp [align]
theorem align_keep {a b : List Int} {r c : Nat} (hr : r < a.length) (hc : c < b.length) (h : gi a r = gi b c) :
    align (a.drop r) (b.drop c) = .keep (gi a r) :: align (a.drop (r + 1)) (b.drop (c + 1)) := by
  rw [List.drop_eq_getElem_cons hr, List.drop_eq_getElem_cons hc, align, if_pos (by rwa [gi_get hr, gi_get hc] at h), gi_get hr]
theorem align_del {a b : List Int} {r c : Nat} (hr : r < a.length) (hc : c < b.length) (h : gi a r ≠ gi b c) (ht : tab a b r (c + 1) ≤ tab a b (r + 1) c) :
    align (a.drop r) (b.drop c) = .del (gi a r) :: align (a.drop (r + 1)) (b.drop c) := by
  unfold tab at ht
  rw [List.drop_eq_getElem_cons hr, List.drop_eq_getElem_cons hc] at ht ⊢
  rw [align, if_neg (by rwa [gi_get hr, gi_get hc] at h), if_pos ht, gi_get hr]
theorem align_ins {a b : List Int} {r c : Nat} (hr : r < a.length) (hc : c < b.length) (h : gi a r ≠ gi b c) (ht : ¬ tab a b r (c + 1) ≤ tab a b (r + 1) c) :
    align (a.drop r) (b.drop c) = .ins (gi b c) :: align (a.drop r) (b.drop (c + 1)) := by
  unfold tab at ht
  rw [List.drop_eq_getElem_cons hr, List.drop_eq_getElem_cons hc] at ht ⊢
  rw [align, if_neg (by rwa [gi_get hr, gi_get hc] at h), if_neg ht, gi_get hc]
theorem align_del_end {a b : List Int} {r c : Nat} (hr : r < a.length) (hc : b.length ≤ c) :
    align (a.drop r) (b.drop c) = .del (gi a r) :: align (a.drop (r + 1)) (b.drop c) := by
  rw [List.drop_eq_nil_of_le hc, align_left, align_left, List.drop_eq_getElem_cons hr, gi_get hr]; rfl
theorem align_ins_end {a b : List Int} {r c : Nat} (hr : a.length ≤ r) (hc : c < b.length) :
    align (a.drop r) (b.drop c) = .ins (gi b c) :: align (a.drop r) (b.drop (c + 1)) := by
  rw [List.drop_eq_nil_of_le hr, List.drop_eq_getElem_cons hc, gi_get hc]
  simp only [align, List.map_cons]
theorem align_done {a b : List Int} {r c : Nat} (hr : a.length ≤ r) (hc : b.length ≤ c) : align (a.drop r) (b.drop c) = [] := by
  rw [List.drop_eq_nil_of_le hr, List.drop_eq_nil_of_le hc]; simp [align]

def kept : List Ev → List Int
  | [] => []
  | .keep n :: r => n :: kept r
  | _ :: r => kept r
theorem kept_append (e f : List Ev) : kept (e ++ f) = kept e ++ kept f := by
  induction e with
  | nil => rfl
  | cons x r ih => cases x <;> simp [kept, ih]

structure Spl where
  at_ : Nat
  drop : Nat
  add : List Int

/-- The state of the differ: the splices so far, the place in the new list, whether the last splice is still open. -/
structure Dst where
  out : List Spl
  at_ : Nat
  opened : Bool

def Dst.last (d : Dst) : List Spl := if d.opened then d.out else d.out ++ [⟨d.at_, 0, []⟩]
def mapLast (f : Spl → Spl) : List Spl → List Spl
  | [] => []
  | [x] => [f x]
  | x :: y :: r => x :: mapLast f (y :: r)
theorem mapLast_snoc (f : Spl → Spl) (l : List Spl) (x : Spl) : mapLast f (l ++ [x]) = l ++ [f x] := by
  induction l with
  | nil => rfl
  | cons y r ih =>
    cases r with
    | nil => rfl
    | cons z r => simp only [List.cons_append, mapLast] at ih ⊢; rw [ih]
theorem mapLast_length (f : Spl → Spl) (l : List Spl) : (mapLast f l).length = l.length := by
  induction l using mapLast.induct <;> simp_all [mapLast]

def Dst.step (d : Dst) : Ev → Dst
  | .keep _ => ⟨d.out, d.at_ + 1, false⟩
  | .del _ => ⟨mapLast (fun s => { s with drop := s.drop + 1 }) d.last, d.at_, true⟩
  | .ins n => ⟨mapLast (fun s => { s with add := s.add ++ [n] }) d.last, d.at_ + 1, true⟩
def Dst.run (d : Dst) (e : List Ev) : Dst := e.foldl Dst.step d
def Dst.zero : Dst := ⟨[], 0, false⟩

def keepS (a b : List Int) : List Int := if 1024 < a.length ∨ 1024 < b.length then [] else kept (align a b)
def diffS (a b : List Int) : List Spl :=
  if 1024 < a.length ∨ 1024 < b.length then (if a = b then [] else [⟨0, a.length, b⟩]) else (Dst.zero.run (align a b)).out

/-- Splices as they may come in: at and drop any integers. -/
structure Spi where
  at_ : Int
  drop : Int
  add : List Int
def Spl.int (s : Spl) : Spi := ⟨s.at_, s.drop, s.add⟩
def app1 (l : List Int) (s : Spi) : Option (List Int) :=
  if s.at_ < 0 ∨ s.drop < 0 ∨ (l.length : Int) < s.at_ ∨ (l.length : Int) - s.at_ < s.drop then none
  else some (l.take s.at_.toNat ++ s.add ++ l.drop (s.at_ + s.drop).toNat)
def app : List Int → List Spi → Option (List Int)
  | l, [] => some l
  | l, s :: r => match app1 l s with
    | none => none
    | some m => app m r
end Go.Proofs.Ytfnbchbndmbjaaa
