/- Layer 9, plain: header fields; what ReplaceAll does to a list of bytes. -/
import Derived.Test.YtnpgnohlcphfnaaGreatDoorM01
import Derived.Lib.Replace
import Derived.Lib.IndexLaws
import Derived.Lib.CountLaws
import Derived.Lib.SlTrimSet
namespace Go.Proofs.YtnpgnohlcphfnaaGreatDoor
open Go.RowKit
set_option linter.unusedVariables false

/-- Replaced throughout. -/
def repA (old new s : List UInt8) : List UInt8 := Lib.replaceK old new (Lib.count s old) s
theorem repA_nil {old new : List UInt8} (h : old ≠ []) : repA old new [] = [] := by
  have h1 : Lib.index [] old = -1 := Lib.index_past h (Lib.NoOcc.zero _ _) (by cases old with | nil => exact absurd rfl h | cons c t => simp)
  unfold repA
  rw [Lib.count_miss h1]
  rfl
theorem repA_hit {old new s : List UInt8} (h : old ≠ []) : repA old new (old ++ s) = new ++ repA old new s := by
  have h1 : Lib.index (old ++ s) old = (0 : Nat) := Lib.index_hit (Lib.NoOcc.zero _ _) (Nat.zero_le _) (by
    rw [Lib.occAt_iff_take _ _ _ (by simp)]
    simp)
  unfold repA
  rw [Lib.count_hit h h1, Nat.add_comm 1, Lib.replaceK_hit _ _ _ _ _ h1]
  simp
theorem repA_skip {old new : List UInt8} {c : UInt8} {r : List UInt8} (h : old ≠ []) (hn : Lib.occAt (c :: r) old 0 = false) : repA old new (c :: r) = c :: repA old new r := by
  have hno : Lib.NoOcc (c :: r) old 1 := (Lib.NoOcc.zero _ _).succ hn
  have h1 := Lib.index_drop hno (by simp)
  rw [List.drop_one, List.tail_cons] at h1
  unfold repA
  by_cases hm : Lib.index r old = -1
  · have h2 : Lib.index (c :: r) old = -1 := by rw [h1, hm]; rfl
    rw [Lib.count_miss h2, Lib.count_miss hm]
    rfl
  · have hge := Lib.index_ge r old
    obtain ⟨i, hi⟩ : ∃ i : Nat, Lib.index r old = i := ⟨(Lib.index r old).toNat, by omega⟩
    have h2 : Lib.index (c :: r) old = ((i + 1 : Nat) : Int) := by
      rw [h1, hi]
      have : ¬ ((i : Int) == -1) = true := fun e => by have := beq_iff_eq.1 e; omega
      rw [if_neg this]
      omega
    rw [Lib.count_hit h h2, Lib.count_hit h hi, Nat.add_comm 1, Nat.add_comm 1, Lib.replaceK_hit _ _ _ _ _ h2, Lib.replaceK_hit _ _ _ _ _ hi, show i + 1 + old.length = (i + old.length) + 1 by omega, List.drop_succ_cons, List.take_succ_cons]
    simp
theorem replaceAll_eq {old new : List UInt8} (hne : old ≠ new) (s : List UInt8) : Lib.replaceAll s old new = repA old new s := by
  unfold Lib.replaceAll Lib.replace repA
  have h1 : ¬ (old == new) = true := fun e => hne (beq_iff_eq.1 e)
  rw [if_neg h1]
  unfold Lib.replaceNum
  rw [if_pos (.inl (by omega))]
/-- Line ends taken out. -/
def crlfP : List UInt8 → List UInt8
  | [] => []
  | [c] => [c]
  | c :: d :: r => if c = 13 ∧ d = 10 then crlfP r else c :: crlfP (d :: r)
theorem occ_head {c : UInt8} {r : List UInt8} {x : UInt8} {t : List UInt8} (h : c ≠ x) : Lib.occAt (c :: r) (x :: t) 0 = false := by
  cases ho : Lib.occAt (c :: r) (x :: t) 0 with
  | false => rfl
  | true =>
    have := Lib.occAt_head rfl ho
    simp at this
    exact absurd this h
theorem crlf_eq : ∀ (n : Nat) (l : List UInt8), l.length ≤ n → repA [13, 10] [] l = crlfP l
  | _, [], _ => repA_nil (by simp)
  | n, [c], _ => by
    rw [repA_skip (by simp), repA_nil (by simp)]
    · rfl
    · cases ho : Lib.occAt [c] [13, 10] 0 with
      | false => rfl
      | true =>
        have := Lib.occAt_room ho
        simp at this
  | 0, c :: d :: r, h => by simp at h
  | n + 1, c :: d :: r, h => by
    have h1 : r.length ≤ n := by simp at h; omega
    have h2 : (d :: r).length ≤ n := by simp at h ⊢; omega
    by_cases he : c = 13 ∧ d = 10
    · obtain ⟨rfl, rfl⟩ := he
      have h3 := repA_hit (old := [13, 10]) (new := []) (s := r) (by simp)
      simp only [List.cons_append, List.nil_append] at h3
      rw [h3, crlf_eq n r h1]
      rfl
    · rw [repA_skip (by simp), crlf_eq n (d :: r) h2]
      · show _ = (if c = 13 ∧ d = 10 then crlfP r else c :: crlfP (d :: r))
        rw [if_neg he]
      · cases ho : Lib.occAt (c :: d :: r) [13, 10] 0 with
        | false => rfl
        | true =>
          rw [Lib.occAt_iff_take _ _ _ (by simp)] at ho
          simp at ho
          exact absurd ho he
theorem lf_eq : ∀ (l : List UInt8), repA [10] [] l = l.filter fun c => decide (c ≠ 10)
  | [] => repA_nil (by simp)
  | c :: r => by
    by_cases he : c = 10
    · subst he
      have h3 := repA_hit (old := [10]) (new := []) (s := r) (by simp)
      simp only [List.cons_append, List.nil_append] at h3
      rw [h3, lf_eq r]
      rfl
    · rw [repA_skip (by simp) (occ_head he), lf_eq r, List.filter_cons_of_pos (by simpa using he)]
def unfoldP (l : List UInt8) : List UInt8 := (crlfP l).filter fun c => decide (c ≠ 10)
theorem crlfP_len : ∀ (n : Nat) (l : List UInt8), l.length ≤ n → (crlfP l).length ≤ l.length
  | _, [], _ => Nat.le_refl _
  | _, [c], _ => Nat.le_refl _
  | 0, c :: d :: r, h => by simp at h
  | n + 1, c :: d :: r, h => by
    have h1 := crlfP_len n r (by simp at h; omega)
    have h2 := crlfP_len n (d :: r) (by simp at h ⊢; omega)
    show (if c = 13 ∧ d = 10 then crlfP r else c :: crlfP (d :: r)).length ≤ _
    split
    · simp only [List.length_cons]; omega
    · simp only [List.length_cons] at h2 ⊢; omega
theorem unfoldP_len (l : List UInt8) : (unfoldP l).length ≤ l.length := Nat.le_trans (List.length_filter_le _ _) (crlfP_len _ l (Nat.le_refl _))
/-- The first line's length, its end counted in. -/
def endP (l : List UInt8) : Nat := match cutP 10 l with
  | some q => q.1.length + 1
  | none => l.length
theorem endP_le (l : List UInt8) : endP l ≤ l.length := by
  unfold endP
  cases h : cutP 10 l with
  | none => exact Nat.le_refl _
  | some q =>
    have h1 := (cutP_some (a := q.1) (b := q.2) h).1
    show q.1.length + 1 ≤ _
    rw [h1]
    simp
theorem endP_pos {l : List UInt8} (h : l ≠ []) : 1 ≤ endP l := by
  unfold endP
  cases h1 : cutP 10 l with
  | some q => show 1 ≤ q.1.length + 1; omega
  | none =>
    show 1 ≤ l.length
    cases l with
    | nil => exact absurd rfl h
    | cons c r => simp
def tabB (c : UInt8) : Bool := decide (c = 32) || decide (c = 9)
def goesP (l : List UInt8) : Bool := match l with
  | [] => false
  | c :: _ => tabB c
/-- A line without its end. -/
def nudeP (l : List UInt8) : List UInt8 := if l.getLast? = some 10 then (if l.dropLast.getLast? = some 13 then l.dropLast.dropLast else l.dropLast) else l
theorem nudeP_len (l : List UInt8) : (nudeP l).length ≤ l.length := by
  unfold nudeP
  split
  · split
    · rw [List.length_dropLast, List.length_dropLast]; omega
    · rw [List.length_dropLast]; omega
  · exact Nat.le_refl _
def nameB (c : UInt8) : Bool := decide (33 ≤ c ∧ c ≤ 126) && decide (c ≠ 58)
def nameOk (l : List UInt8) : Bool := l.all nameB && !l.isEmpty
def blanksP : List UInt8 := [32, 9]
/-- A field of a header. -/
structure Fld where
  name : List UInt8
  value : List UInt8
  raw : List UInt8
  bad : Bool
def fldP (raw : List UInt8) : Fld := match cutP 58 (nudeP (raw.take (endP raw))) with
  | none => ⟨[], [], raw, true⟩
  | some q => if nameOk (Lib.trimRightS q.1 blanksP) = true then ⟨Lib.trimRightS q.1 blanksP, nudeP (raw.drop (q.1.length + 1)), raw, false⟩ else ⟨[], [], raw, true⟩
/-- The lines that belong to a field. -/
def moreP : Nat → List UInt8 → Nat
  | 0, _ => 0
  | f + 1, l => if goesP l = true then endP l + moreP f (l.drop (endP l)) else 0
theorem moreP_le : ∀ (f : Nat) (l : List UInt8), moreP f l ≤ l.length
  | 0, l => Nat.zero_le _
  | f + 1, l => by
    unfold moreP
    split
    · have h1 := moreP_le f (l.drop (endP l))
      have h2 := endP_le l
      rw [List.length_drop] at h1
      omega
    · exact Nat.zero_le _
theorem goes_ne {l : List UInt8} (h : goesP l = true) : l ≠ [] := by
  rintro rfl
  cases h
theorem moreP_fuel : ∀ (f g : Nat) (l : List UInt8), l.length ≤ f → l.length ≤ g → moreP f l = moreP g l
  | 0, g, l, hf, hg => by
    have : l = [] := List.eq_nil_of_length_eq_zero (by omega)
    subst this
    cases g with
    | zero => rfl
    | succ g => rfl
  | f + 1, 0, l, hf, hg => by
    have : l = [] := List.eq_nil_of_length_eq_zero (by omega)
    subst this
    rfl
  | f + 1, g + 1, l, hf, hg => by
    unfold moreP
    by_cases h : goesP l = true
    · rw [if_pos h, if_pos h]
      have h1 := endP_pos (goes_ne h)
      have h2 := endP_le l
      rw [moreP_fuel f g (l.drop (endP l)) (by rw [List.length_drop]; omega) (by rw [List.length_drop]; omega)]
    · rw [if_neg h, if_neg h]
/-- The fields of a header section, and where it ends. -/
def headF : Nat → List UInt8 → List Fld × Nat
  | 0, _ => ([], 0)
  | f + 1, l => if l = [] then ([], 0) else
    if nudeP (l.take (endP l)) = [] then ([], endP l) else
    let m := endP l + moreP l.length (l.drop (endP l))
    (fldP (l.take m) :: (headF f (l.drop m)).1, m + (headF f (l.drop m)).2)
def headP (l : List UInt8) : List Fld × Nat := headF l.length l
theorem headF_fuel : ∀ (f g : Nat) (l : List UInt8), l.length ≤ f → l.length ≤ g → headF f l = headF g l
  | 0, g, l, hf, hg => by
    have : l = [] := List.eq_nil_of_length_eq_zero (by omega)
    subst this
    cases g with
    | zero => rfl
    | succ g => rfl
  | f + 1, 0, l, hf, hg => by
    have : l = [] := List.eq_nil_of_length_eq_zero (by omega)
    subst this
    rfl
  | f + 1, g + 1, l, hf, hg => by
    unfold headF
    by_cases h : l = []
    · rw [if_pos h, if_pos h]
    · rw [if_neg h, if_neg h]
      by_cases h2 : nudeP (l.take (endP l)) = []
      · rw [if_pos h2, if_pos h2]
      · rw [if_neg h2, if_neg h2]
        have h3 := endP_pos h
        have h4 := endP_le l
        dsimp only
        rw [headF_fuel f g (l.drop (endP l + moreP l.length (l.drop (endP l)))) (by rw [List.length_drop]; omega) (by rw [List.length_drop]; omega)]
/-- The value of the first field with a name. -/
def getP (l : List Fld) (name : List UInt8) : Option (List UInt8) := (l.find? fun f => !f.bad && decide (smallP f.name = smallP name)).map fun f => Lib.trimS (unfoldP f.value) blanksP
/-- A field, written. -/
def airP (l : List UInt8) : List UInt8 := l.map fun c => if c = 13 ∨ c = 10 then 32 else c
def pieceP : List UInt8 → Nat
  | [] => 1
  | [_] => 1
  | c :: d :: r => if tabB d = true ∧ tabB c = false then 1 else 1 + pieceP (d :: r)
def foldG : Nat → Bool → Nat → List UInt8 → List UInt8
  | 0, _, _, _ => []
  | f + 1, first, n, v => if v = [] then [] else
    if first = false ∧ 78 < n + pieceP v then [13, 10] ++ v.take (pieceP v) ++ foldG f false (pieceP v) (v.drop (pieceP v))
    else v.take (pieceP v) ++ foldG f false (n + pieceP v) (v.drop (pieceP v))
def foldV (name v : List UInt8) : List UInt8 := foldG v.length true (name.length + 2) v
def putP (name value : List UInt8) : List UInt8 := if nameOk name = true then name ++ [58, 32] ++ foldV name (Lib.trimS (airP value) blanksP) ++ [13, 10] else []
end Go.Proofs.YtnpgnohlcphfnaaGreatDoor
