/- Layer 37, plain: what a query's text means. Layer 37, plain: a query within parentheses, at another place of a longer text and one deeper (for QueryJoins). Layer 37, plain: what QueryJoins says of the parser's outcomes. -/
import Derived.Test.YtomcdhmcjndioaaGreatDoorM01
import Derived.Test.YtomcdhmcjndioaaGreatDoorM02
section
namespace Go.Proofs.YtomcdhmcjndioaaGreatDoor
open Go.RowKit
set_option linter.unusedVariables false

/-- A query. -/
inductive Qry where
  | mk (op fld : Int) (text : List UInt8) (n : Int) (kids : List Qry)
def Qry.op : Qry → Int | .mk a _ _ _ _ => a
def Qry.fld : Qry → Int | .mk _ a _ _ _ => a
def Qry.text : Qry → List UInt8 | .mk _ _ a _ _ => a
def Qry.n : Qry → Int | .mk _ _ _ a _ => a
def Qry.kids : Qry → List Qry | .mk _ _ _ _ a => a
def noQ : Qry := .mk 0 0 [] 0 []
def blankQ (c : UInt8) : Bool := c == 32 || c == 9 || c == 13 || c == 10
/-- A byte that ends a bare token. -/
def edgeQ (c : UInt8) : Bool := blankQ c || c == 40 || c == 41 || c == 34
def fieldsQ : List (List UInt8) := [[], [102, 114, 111, 109], [116, 111], [115, 117, 98, 106, 101, 99, 116], [98, 111, 100, 121], [102, 105, 108, 101]]
/-- The number of a text field, or 0. -/
def fieldQ (s : List UInt8) : Nat := if smallP s = [102, 114, 111, 109] then 1 else if smallP s = [116, 111] then 2 else if smallP s = [115, 117, 98, 106, 101, 99, 116] then 3 else if smallP s = [98, 111, 100, 121] then 4 else if smallP s = [102, 105, 108, 101] then 5 else 0
inductive QTok where
  | fin | opn | sht | dash | bad
  | quo (t : List UInt8) (f : Nat) (raw : List UInt8)
  | bare (t : List UInt8)
structure Pce where
  src : Nat
  dst : Nat
  tok : QTok
/-- A quoted string: what lies behind its opening quote, which stands at `a`. -/
def quoQ (src a : Nat) (r : List UInt8) (f : Nat) (raw : List UInt8) : Pce :=
  if 34 ∈ r then ⟨src, a + (r.takeWhile (· != 34)).length + 2, .quo (r.takeWhile (· != 34)) f raw⟩ else ⟨a, a, .bad⟩
/-- A bare token, or a field's quoted string. -/
def bareQ (k : Nat) (l : List UInt8) : Pce :=
  let t := l.takeWhile (fun c => !edgeQ c)
  match l.drop t.length with
  | 34 :: u => if t.getLast? = some 58 ∧ 0 < fieldQ t.dropLast then quoQ k (k + t.length) u (fieldQ t.dropLast) t else ⟨k, k + t.length, .bare t⟩
  | _ => ⟨k, k + t.length, .bare t⟩
/-- Whether a minus stands ahead of these bytes as a token. -/
def dashB : List UInt8 → Bool
  | [] => false
  | d :: _ => !blankQ d && d != 41
def tokQ (k : Nat) : List UInt8 → Pce
  | [] => ⟨k, k, .fin⟩
  | c :: r =>
    if c = 40 then ⟨k, k + 1, .opn⟩ else if c = 41 then ⟨k, k + 1, .sht⟩ else if c = 34 then quoQ k k r 0 []
    else if c = 45 ∧ dashB r = true then ⟨k, k + 1, .dash⟩ else bareQ k (c :: r)
/-- The blanks at the front. -/
def gapQ (l : List UInt8) : Nat := (l.takeWhile blankQ).length
/-- The next token. -/
def peekQ (s : List UInt8) (a : Nat) : Pce := tokQ (a + gapQ (s.drop a)) (s.drop (a + gapQ (s.drop a)))

def joinSp : List (List UInt8) → List UInt8
  | [] => []
  | [w] => w
  | w :: r => w ++ 32 :: joinSp r
def textQ (s : List UInt8) (f : Nat) : Option Qry :=
  match listP s with
  | [] => none
  | [w] => some (.mk 2 f w 0 [])
  | l => some (.mk 3 f (joinSp l) 0 [])
def plainQ (s : List UInt8) (f : Nat) : Option Qry :=
  if s.getLast? = some 42 then
    match listP s.dropLast with
    | [w] => some (.mk 4 f w 0 [])
    | _ => textQ s f
  else textQ s f
def flagC (c : UInt8) : Bool := (97 ≤ c && c ≤ 122) || (48 ≤ c && c ≤ 57) || c == 36 || c == 92 || c == 45 || c == 95 || c == 46
def flagQ (s : List UInt8) : Bool := decide (1 ≤ s.length) && decide (s.length ≤ 30) && s.all flagC
def timesQ (s : List UInt8) : Int :=
  match s.getLast? with
  | some c => if c = 75 ∨ c = 107 then 1024 else if c = 77 ∨ c = 109 then 1048576 else 1
  | none => 1
def sizeQ (s : List UInt8) : Option Int := (decP (if 1 < timesQ s then s.dropLast else s) 0 1048576).map (· * timesQ s)
def numQ (l : List UInt8) : Nat := l.foldl (fun a c => 10 * a + (c.toNat - 48)) 0
def momentQ (s : List UInt8) : Option Int :=
  if s.length = 10 ∧ s.getD 4 0 = 45 ∧ s.getD 7 0 = 45 ∧ (s.take 4).all digitB = true ∧ ((s.drop 5).take 2).all digitB = true ∧ (s.drop 8).all digitB = true then
    (if dateB (numQ (s.take 4)) (numQ ((s.drop 5).take 2)) (numQ (s.drop 8)) then some (86400 * dayQ (numQ (s.take 4)) (numQ ((s.drop 5).take 2)) (numQ (s.drop 8))) else none)
  else none
/-- The meaning of a value behind a name that is no text field; the outer option: whether there is such a name. -/
def namedQ (name v : List UInt8) : Option (Option Qry) :=
  if name = [105, 115] then some (if flagQ (smallP v) then some (.mk 5 0 (smallP v) 0 []) else none)
  else if name = [105, 110] then some ((decP v 1 1099511627776).map fun n => .mk 6 0 [] n [])
  else if name = [108, 97, 114, 103, 101, 114] then some ((sizeQ v).map fun n => .mk 9 0 [] n [])
  else if name = [115, 109, 97, 108, 108, 101, 114] then some ((sizeQ v).map fun n => .mk 10 0 [] n [])
  else if name = [98, 101, 102, 111, 114, 101] then some ((momentQ v).map fun n => .mk 7 0 [] n [])
  else if name = [97, 102, 116, 101, 114] then some ((momentQ v).map fun n => .mk 8 0 [] n [])
  else none
/-- The meaning of a bare token. -/
def meansQ (t : List UInt8) : Option Qry :=
  if 58 ∈ t then
    let name := t.takeWhile (· != 58)
    let rest := t.drop (name.length + 1)
    if 0 < fieldQ name then plainQ rest (fieldQ name)
    else match namedQ (smallP name) rest with
      | some o => o
      | none => plainQ t 0
  else plainQ t 0

inductive QRes where
  | ok (q : Qry) (a : Nat)
  | err (e a : Nat)
inductive QKind where
  | term | row | qry
  | rows (l : List Qry)
  | qrys (l : List Qry)
def wAND : List UInt8 := [65, 78, 68]
def wOR : List UInt8 := [79, 82]
def wNOT : List UInt8 := [78, 79, 84]
def joinQ (op : Int) : List Qry → Qry
  | [q] => q
  | l => .mk op 0 [] 0 l
def QRes.then (r : QRes) (k : Qry → Nat → QRes) : QRes :=
  match r with
  | .ok q a => k q a
  | .err e a => .err e a
def leafQ (o : Option Qry) (x : Pce) : QRes :=
  match o with
  | some q => .ok q x.dst
  | none => .err 2 x.src
/-- Whether a token ends a row. -/
def stopRow : QTok → Bool
  | .fin => true
  | .sht => true
  | .bare t => decide (t = wOR)
  | _ => false
def isBare (w : List UInt8) : QTok → Bool
  | .bare t => decide (t = w)
  | _ => false
def shutB : QTok → Bool
  | .sht => true
  | _ => false
/-- What a term begins with: 0 nothing, 1 a negation, 2 a parenthesis, 3 a token with a meaning. -/
def headQ : QTok → Nat
  | .fin => 0
  | .sht => 0
  | .bad => 0
  | .dash => 1
  | .opn => 2
  | .quo _ _ _ => 3
  | .bare t => if t = wAND ∨ t = wOR then 0 else if t = wNOT then 1 else 3
def valueQ : QTok → Option Qry
  | .quo t f _ => textQ t f
  | .bare t => meansQ t
  | _ => none
def runQ (s : List UInt8) : Nat → QKind → Nat → Nat → QRes
  | 0, _, _, _ => .err 2 0
  | f + 1, .term, d, a =>
    if headQ (peekQ s a).tok = 0 then .err 2 (peekQ s a).src
    else if headQ (peekQ s a).tok = 3 then leafQ (valueQ (peekQ s a).tok) (peekQ s a)
    else if 8 ≤ d then .err 10 (peekQ s a).src
    else if headQ (peekQ s a).tok = 1 then (runQ s f .term (d + 1) (peekQ s a).dst).then fun q b => .ok (.mk 13 0 [] 0 [q]) b
    else (runQ s f .qry (d + 1) (peekQ s a).dst).then fun q b => if shutB (peekQ s b).tok then .ok q (peekQ s b).dst else .err 2 (peekQ s b).src
  | f + 1, .row, d, a => (runQ s f .term d a).then fun q b => runQ s f (.rows [q]) d b
  | f + 1, .rows l, d, a =>
    if stopRow (peekQ s a).tok then .ok (joinQ 11 l) a
    else (runQ s f .term d (if isBare wAND (peekQ s a).tok then (peekQ s a).dst else a)).then fun q b => runQ s f (.rows (l ++ [q])) d b
  | f + 1, .qry, d, a => (runQ s f .row d a).then fun q b => runQ s f (.qrys [q]) d b
  | f + 1, .qrys l, d, a =>
    if isBare wOR (peekQ s a).tok then (runQ s f .row d (peekQ s a).dst).then fun q b => runQ s f (.qrys (l ++ [q])) d b
    else .ok (joinQ 12 l) a
def finB : QTok → Bool
  | .fin => true
  | _ => false
/-- Parse: the query, the error and its place. -/
def parseQ (s : List UInt8) : Qry × Nat × Nat :=
  if 1000 < s.length then (noQ, 16, 0)
  else if finB (peekQ s 0).tok then (.mk 1 0 [] 0 [], 0, 0)
  else match runQ s (3 * s.length + 9) .qry 0 0 with
    | .ok q a => if finB (peekQ s a).tok then (q, 0, 0) else (noQ, 2, (peekQ s a).src)
    | .err e a => (noQ, e, a)

theorem gap_le (l : List UInt8) : gapQ l ≤ l.length := by
  unfold gapQ
  exact (List.takeWhile_prefix _).length_le
theorem quo_src (src a : Nat) (r : List UInt8) (f : Nat) (raw : List UInt8) : (quoQ src a r f raw).src = src ∨ (quoQ src a r f raw).src = a := by
  unfold quoQ
  split
  · exact Or.inl rfl
  · exact Or.inr rfl
theorem quo_dst (src a : Nat) (r : List UInt8) (f : Nat) (raw : List UInt8) : a ≤ (quoQ src a r f raw).dst ∧ (quoQ src a r f raw).dst ≤ a + 1 + r.length := by
  unfold quoQ
  split
  · rename_i h
    refine ⟨by show a ≤ a + _ + 2; omega, ?_⟩
    show a + (r.takeWhile (· != 34)).length + 2 ≤ _
    have : (r.takeWhile (· != 34)).length < r.length := by
      rw [Nat.lt_iff_le_and_ne]
      refine ⟨(List.takeWhile_prefix _).length_le, fun e => ?_⟩
      have h2 := (List.takeWhile_prefix (p := (· != 34)) (l := r)).eq_of_length e
      rw [← h2] at h
      have h3 := List.all_takeWhile (p := (· != 34)) (l := r)
      rw [List.all_eq_true] at h3
      exact absurd (h3 _ h) (by decide)
    omega
  · exact ⟨Nat.le_refl _, by show a ≤ _; omega⟩
theorem bare_dst (k : Nat) (l : List UInt8) : k ≤ (bareQ k l).src ∧ (bareQ k l).src ≤ k + l.length ∧ k ≤ (bareQ k l).dst ∧ (bareQ k l).dst ≤ k + l.length := by
  have h : (l.takeWhile (fun c => !edgeQ c)).length ≤ l.length := (List.takeWhile_prefix _).length_le
  unfold bareQ
  dsimp only
  split
  · rename_i u hu
    have hl : (l.takeWhile (fun c => !edgeQ c)).length + (1 + u.length) = l.length := by
      have := congrArg List.length hu
      rw [List.length_drop, List.length_cons] at this
      omega
    split
    · have h1 := quo_dst k (k + (l.takeWhile (fun c => !edgeQ c)).length) u (fieldQ (l.takeWhile (fun c => !edgeQ c)).dropLast) (l.takeWhile (fun c => !edgeQ c))
      rcases quo_src k (k + (l.takeWhile (fun c => !edgeQ c)).length) u (fieldQ (l.takeWhile (fun c => !edgeQ c)).dropLast) (l.takeWhile (fun c => !edgeQ c)) with h2 | h2 <;> rw [h2] <;> omega
    · exact ⟨Nat.le_refl _, by dsimp only; omega, by dsimp only; omega, by dsimp only; omega⟩
  · exact ⟨Nat.le_refl _, by dsimp only; omega, by dsimp only; omega, by dsimp only; omega⟩
theorem tok_dst (k : Nat) (l : List UInt8) : k ≤ (tokQ k l).src ∧ (tokQ k l).src ≤ k + l.length ∧ k ≤ (tokQ k l).dst ∧ (tokQ k l).dst ≤ k + l.length := by
  cases l with
  | nil => exact ⟨Nat.le_refl _, Nat.le_refl _, Nat.le_refl _, Nat.le_refl _⟩
  | cons c r =>
    have hl : (c :: r).length = r.length + 1 := rfl
    unfold tokQ
    dsimp only
    split
    · exact ⟨by dsimp only; omega, by dsimp only; omega, by dsimp only; omega, by dsimp only; omega⟩
    · split
      · exact ⟨by dsimp only; omega, by dsimp only; omega, by dsimp only; omega, by dsimp only; omega⟩
      · split
        · have h1 := quo_dst k k r 0 []
          rcases quo_src k k r 0 [] with h2 | h2 <;> rw [h2] <;> omega
        · split
          · exact ⟨by dsimp only; omega, by dsimp only; omega, by dsimp only; omega, by dsimp only; omega⟩
          · exact bare_dst k (c :: r)
theorem peek_in (s : List UInt8) (a : Nat) (ha : a ≤ s.length) : a ≤ (peekQ s a).src ∧ (peekQ s a).src ≤ s.length ∧ a ≤ (peekQ s a).dst ∧ (peekQ s a).dst ≤ s.length := by
  have h1 := gap_le (s.drop a)
  rw [List.length_drop] at h1
  have h2 := tok_dst (a + gapQ (s.drop a)) (s.drop (a + gapQ (s.drop a)))
  rw [List.length_drop] at h2
  unfold peekQ
  omega
theorem bare_on (k : Nat) (c : UInt8) (r : List UInt8) (hc : edgeQ c = false) : k < (bareQ k (c :: r)).dst ∨ (bareQ k (c :: r)).tok = .bad := by
  have h : 1 ≤ ((c :: r).takeWhile (fun c => !edgeQ c)).length := by
    rw [List.takeWhile_cons_of_pos (by rw [hc]; rfl)]
    exact Nat.succ_le_succ (Nat.zero_le _)
  unfold bareQ
  dsimp only
  split
  · split
    · unfold quoQ
      split
      · left; dsimp only; omega
      · right; rfl
    · left; dsimp only; omega
  · left; dsimp only; omega
theorem quo_on (src a : Nat) (r : List UInt8) (f : Nat) (raw : List UInt8) : a < (quoQ src a r f raw).dst ∨ (quoQ src a r f raw).tok = .bad := by
  unfold quoQ
  split
  · left; dsimp only; omega
  · right; rfl
theorem tok_on (k : Nat) (l : List UInt8) (hl : ∀ c, l.head? = some c → blankQ c = false) : k < (tokQ k l).dst ∨ (tokQ k l).tok = .bad ∨ (tokQ k l).tok = .fin := by
  cases l with
  | nil => exact Or.inr (Or.inr rfl)
  | cons c r =>
    unfold tokQ
    dsimp only
    split
    · left; dsimp only; omega
    · rename_i h1
      split
      · left; dsimp only; omega
      · rename_i h2
        split
        · rcases quo_on k k r 0 [] with h | h
          · exact Or.inl h
          · exact Or.inr (Or.inl h)
        · rename_i h3
          split
          · left; dsimp only; omega
          · have hb := hl c rfl
            rcases bare_on k c r (by unfold edgeQ; rw [hb]; simp [h1, h2, h3]) with h | h
            · exact Or.inl h
            · exact Or.inr (Or.inl h)
theorem gap_head (l : List UInt8) (c : UInt8) (h : (l.drop (gapQ l)).head? = some c) : blankQ c = false := by
  induction l with
  | nil => simp [gapQ] at h
  | cons d r ih =>
    unfold gapQ at h ih
    by_cases hd : blankQ d = true
    · rw [List.takeWhile_cons_of_pos hd] at h
      exact ih h
    · rw [List.takeWhile_cons_of_neg hd] at h
      simp only [List.length_nil, List.drop_zero, List.head?_cons, Option.some.injEq] at h
      rw [← h]; simpa using hd
/-- A token that is read lies behind the place. -/
theorem peek_on (s : List UInt8) (a : Nat) : a < (peekQ s a).dst ∨ (peekQ s a).tok = .bad ∨ (peekQ s a).tok = .fin := by
  unfold peekQ
  rcases tok_on (a + gapQ (s.drop a)) (s.drop (a + gapQ (s.drop a))) (fun c hc => gap_head (s.drop a) c (by rw [List.drop_drop]; exact hc)) with h | h
  · left; omega
  · exact Or.inr h
theorem peek_head {s : List UInt8} {a : Nat} (h : headQ (peekQ s a).tok ≠ 0) : a < (peekQ s a).dst := by
  rcases peek_on s a with h1 | h1 | h1
  · exact h1
  · rw [h1] at h; exact absurd rfl h
  · rw [h1] at h; exact absurd rfl h
theorem peek_shut {s : List UInt8} {a : Nat} (h : shutB (peekQ s a).tok = true) : a < (peekQ s a).dst := by
  rcases peek_on s a with h1 | h1 | h1
  · exact h1
  · rw [h1] at h; cases h
  · rw [h1] at h; cases h
theorem peek_bare {s w : List UInt8} {a : Nat} (h : isBare w (peekQ s a).tok = true) : a < (peekQ s a).dst := by
  rcases peek_on s a with h1 | h1 | h1
  · exact h1
  · rw [h1] at h; cases h
  · rw [h1] at h; cases h
/-- What a run gives: a place within the text; an error's code is one of two. -/
def InQ (s : List UInt8) (a : Nat) : QRes → Prop
  | .ok _ b => a ≤ b ∧ b ≤ s.length
  | .err e b => b ≤ s.length ∧ (e = 2 ∨ e = 10)
theorem InQ.less {s : List UInt8} {a a' : Nat} {r : QRes} (h : InQ s a' r) (ha : a ≤ a') : InQ s a r := by
  cases r with
  | ok q b => exact ⟨Nat.le_trans ha h.1, h.2⟩
  | err e b => exact h
theorem InQ.bind {s : List UInt8} {a : Nat} {r : QRes} {k : Qry → Nat → QRes} (h : InQ s a r) (hk : ∀ q b, r = .ok q b → a ≤ b → b ≤ s.length → InQ s b (k q b)) : InQ s a (r.then k) := by
  cases r with
  | ok q b => exact (hk q b rfl h.1 h.2).less h.1
  | err e b => exact h
theorem run_in (s : List UInt8) : ∀ (f : Nat) (k : QKind) (d a : Nat), a ≤ s.length → InQ s a (runQ s f k d a)
  | 0, _, _, _, _ => ⟨Nat.zero_le _, Or.inl rfl⟩
  | f + 1, .term, d, a, ha => by
    have hp := peek_in s a ha
    unfold runQ
    split
    · exact ⟨hp.2.1, Or.inl rfl⟩
    · split
      · unfold leafQ
        split
        · exact ⟨hp.2.2.1, hp.2.2.2⟩
        · exact ⟨hp.2.1, Or.inl rfl⟩
      · split
        · exact ⟨hp.2.1, Or.inr rfl⟩
        · split
          · refine ((run_in s f .term (d + 1) _ hp.2.2.2).bind fun q b _ h1 h2 => ?_).less hp.2.2.1
            exact ⟨Nat.le_refl _, h2⟩
          · refine ((run_in s f .qry (d + 1) _ hp.2.2.2).bind fun q b _ h1 h2 => ?_).less hp.2.2.1
            have hq := peek_in s b h2
            split
            · exact ⟨hq.2.2.1, hq.2.2.2⟩
            · exact ⟨hq.2.1, Or.inl rfl⟩
  | f + 1, .row, d, a, ha => by
    unfold runQ
    exact (run_in s f .term d a ha).bind fun q b _ h1 h2 => run_in s f _ d b h2
  | f + 1, .qry, d, a, ha => by
    unfold runQ
    exact (run_in s f .row d a ha).bind fun q b _ h1 h2 => run_in s f _ d b h2
  | f + 1, .rows l, d, a, ha => by
    have hp := peek_in s a ha
    unfold runQ
    split
    · exact ⟨Nat.le_refl _, ha⟩
    · have h1 : a ≤ (if isBare wAND (peekQ s a).tok then (peekQ s a).dst else a) ∧ (if isBare wAND (peekQ s a).tok then (peekQ s a).dst else a) ≤ s.length := by
        split
        · exact hp.2.2
        · exact ⟨Nat.le_refl _, ha⟩
      exact ((run_in s f .term d _ h1.2).bind fun q b _ h1 h2 => run_in s f _ d b h2).less h1.1
  | f + 1, .qrys l, d, a, ha => by
    have hp := peek_in s a ha
    unfold runQ
    split
    · exact ((run_in s f .row d _ hp.2.2.2).bind fun q b _ h1 h2 => run_in s f _ d b h2).less hp.2.2.1
    · exact ⟨Nat.le_refl _, ha⟩
theorem parse_in (s : List UInt8) : (parseQ s).2.2 ≤ s.length := by
  unfold parseQ
  split
  · exact Nat.zero_le _
  · split
    · exact Nat.zero_le _
    · have h := run_in s (3 * s.length + 9) .qry 0 0 (Nat.zero_le _)
      split
      · rename_i q a e
        rw [e] at h
        split
        · exact Nat.zero_le _
        · exact (peek_in s a h.2).2.1
      · rename_i e a he
        rw [he] at h
        exact h.1
end Go.Proofs.YtomcdhmcjndioaaGreatDoor
end
section
namespace Go.Proofs.YtomcdhmcjndioaaGreatDoor
open Go.RowKit
set_option linter.unusedVariables false

/-- The same piece further on. -/
def Pce.on (o : Nat) (p : Pce) : Pce := ⟨p.src + o, p.dst + o, p.tok⟩
theorem quo_shift (o src a : Nat) (r : List UInt8) (f : Nat) (raw : List UInt8) : quoQ (src + o) (a + o) r f raw = (quoQ src a r f raw).on o := by
  unfold quoQ
  split
  · unfold Pce.on; dsimp only; rw [show a + o + (r.takeWhile (· != 34)).length + 2 = a + (r.takeWhile (· != 34)).length + 2 + o by omega]
  · rfl
theorem bare_shift (o k : Nat) (l : List UInt8) : bareQ (k + o) l = (bareQ k l).on o := by
  unfold bareQ
  dsimp only
  split
  · split
    · rw [show k + o + (l.takeWhile (fun c => !edgeQ c)).length = k + (l.takeWhile (fun c => !edgeQ c)).length + o by omega]
      exact quo_shift o k _ _ _ _
    · unfold Pce.on; dsimp only; rw [show k + o + (l.takeWhile (fun c => !edgeQ c)).length = k + (l.takeWhile (fun c => !edgeQ c)).length + o by omega]
  · unfold Pce.on; dsimp only; rw [show k + o + (l.takeWhile (fun c => !edgeQ c)).length = k + (l.takeWhile (fun c => !edgeQ c)).length + o by omega]
theorem tok_shift (o k : Nat) (l : List UInt8) : tokQ (k + o) l = (tokQ k l).on o := by
  cases l with
  | nil => rfl
  | cons c r =>
    unfold tokQ
    dsimp only
    have e : k + o + 1 = k + 1 + o := by omega
    split
    · unfold Pce.on; dsimp only; rw [e]
    · split
      · unfold Pce.on; dsimp only; rw [e]
      · split
        · exact quo_shift o k k r 0 []
        · split
          · unfold Pce.on; dsimp only; rw [e]
          · exact bare_shift o k (c :: r)
/-- A piece that is no plain token: a quoted string, or one that does not end. -/
def quoB : QTok → Bool
  | .bad => true
  | .quo _ _ _ => true
  | _ => false
theorem quo_quoB (src a : Nat) (r : List UInt8) (f : Nat) (raw : List UInt8) : quoB (quoQ src a r f raw).tok = true := by
  unfold quoQ
  split <;> rfl
theorem takeWhile_app {p : UInt8 → Bool} : ∀ {r y : List UInt8}, (∃ c ∈ r, p c = false) → (r ++ y).takeWhile p = r.takeWhile p
  | [], _, ⟨c, hc, _⟩ => by cases hc
  | d :: r, y, ⟨c, hc, h⟩ => by
    by_cases hd : p d = true
    · rw [List.cons_append, List.takeWhile_cons_of_pos hd, List.takeWhile_cons_of_pos hd]
      rcases List.mem_cons.1 hc with e | e
      · subst e; rw [h] at hd; cases hd
      · rw [takeWhile_app ⟨c, e, h⟩]
    · rw [List.cons_append, List.takeWhile_cons_of_neg hd, List.takeWhile_cons_of_neg hd]
theorem takeWhile_all {p : UInt8 → Bool} : ∀ {r y : List UInt8}, (∀ c ∈ r, p c = true) → (r ++ y).takeWhile p = r ++ y.takeWhile p
  | [], y, _ => rfl
  | d :: r, y, h => by
    rw [List.cons_append, List.takeWhile_cons_of_pos (h d (by simp)), takeWhile_all fun c hc => h c (List.mem_cons_of_mem _ hc), List.cons_append]
theorem quo_app (src a : Nat) (r y : List UInt8) (f : Nat) (raw : List UInt8) (h : (quoQ src a r f raw).tok ≠ .bad) : quoQ src a (r ++ y) f raw = quoQ src a r f raw := by
  unfold quoQ at h ⊢
  by_cases hm : 34 ∈ r
  · rw [if_pos hm, if_pos (List.mem_append_left _ hm), takeWhile_app ⟨34, hm, rfl⟩]
  · rw [if_neg hm] at h; exact absurd rfl h
/-- What stands behind a query in parentheses: blanks and the parenthesis. -/
def ShutAt (y : List UInt8) : Prop := ∃ r, y.drop (gapQ y) = 41 :: r
theorem ShutAt.head {y : List UInt8} (h : ShutAt y) : ∃ c r, y = c :: r ∧ (blankQ c = true ∨ c = 41) := by
  obtain ⟨r, h⟩ := h
  cases y with
  | nil => simp at h
  | cons c t =>
    refine ⟨c, t, rfl, ?_⟩
    by_cases hc : blankQ c = true
    · exact .inl hc
    · unfold gapQ at h
      rw [List.takeWhile_cons_of_neg hc] at h
      simp only [List.length_nil, List.drop_zero, List.cons.injEq] at h
      exact .inr h.1
theorem bare_app (k : Nat) (l y : List UInt8) (hy : ∃ c r, y = c :: r ∧ (blankQ c = true ∨ c = 41)) : ((bareQ k l).tok ≠ .bad → bareQ k (l ++ y) = bareQ k l) ∧ ((bareQ k l).tok = .bad → quoB (bareQ k (l ++ y)).tok = true) := by
  obtain ⟨c, r, rfl, hc⟩ := hy
  have he : edgeQ c = true := by
    unfold edgeQ
    rcases hc with h | h
    · rw [h]; rfl
    · rw [h]; decide
  have hq : c ≠ 34 := by
    rintro rfl
    rcases hc with h | h
    · exact absurd h (by decide)
    · exact absurd h (by decide)
  have ht : (l ++ c :: r).takeWhile (fun c => !edgeQ c) = l.takeWhile (fun c => !edgeQ c) := by
    by_cases h : ∃ d ∈ l, (!edgeQ d) = false
    · exact takeWhile_app h
    · have h2 : ∀ d ∈ l, (!edgeQ d) = true := fun d hd => by
        cases h3 : (!edgeQ d) with
        | true => rfl
        | false => exact absurd ⟨d, hd, h3⟩ h
      rw [takeWhile_all h2, List.takeWhile_cons_of_neg (by rw [he]; decide), List.append_nil]
      have := takeWhile_all (y := []) h2
      rw [List.append_nil, List.takeWhile_nil, List.append_nil] at this
      exact this.symm
  have hlen : (l.takeWhile (fun c => !edgeQ c)).length ≤ l.length := (List.takeWhile_prefix _).length_le
  unfold bareQ
  dsimp only
  rw [ht, List.drop_append_of_le_length hlen]
  obtain ⟨t, hT⟩ : ∃ t, l.takeWhile (fun c => !edgeQ c) = t := ⟨_, rfl⟩
  rw [hT]
  obtain ⟨u, hu⟩ : ∃ u, l.drop t.length = u := ⟨_, rfl⟩
  rw [hu]
  cases u with
  | nil =>
    dsimp only
    rw [List.nil_append]
    constructor
    · intro _
      split
      · rename_i u2 e
        injection e with e1 e2
        exact absurd e1 hq
      · rfl
    · intro h; cases h
  | cons d u =>
    by_cases hd : d = 34
    · subst hd
      dsimp only [List.cons_append]
      show ((if t.getLast? = some 58 ∧ 0 < fieldQ t.dropLast then quoQ k (k + t.length) u (fieldQ t.dropLast) t else ⟨k, k + t.length, .bare t⟩).tok ≠ .bad → (if t.getLast? = some 58 ∧ 0 < fieldQ t.dropLast then quoQ k (k + t.length) (u ++ c :: r) (fieldQ t.dropLast) t else ⟨k, k + t.length, .bare t⟩) = (if t.getLast? = some 58 ∧ 0 < fieldQ t.dropLast then quoQ k (k + t.length) u (fieldQ t.dropLast) t else ⟨k, k + t.length, .bare t⟩)) ∧ ((if t.getLast? = some 58 ∧ 0 < fieldQ t.dropLast then quoQ k (k + t.length) u (fieldQ t.dropLast) t else ⟨k, k + t.length, .bare t⟩).tok = .bad → quoB (if t.getLast? = some 58 ∧ 0 < fieldQ t.dropLast then quoQ k (k + t.length) (u ++ c :: r) (fieldQ t.dropLast) t else ⟨k, k + t.length, .bare t⟩).tok = true)
      by_cases hf : t.getLast? = some 58 ∧ 0 < fieldQ t.dropLast
      · rw [if_pos hf, if_pos hf]
        exact ⟨fun h => quo_app _ _ _ _ _ _ h, fun _ => quo_quoB _ _ _ _ _⟩
      · rw [if_neg hf, if_neg hf]
        exact ⟨fun _ => rfl, fun h => by cases h⟩
    · rw [List.cons_append]
      constructor
      · intro _
        split
        · rename_i u2 e
          injection e with e1 e2
          exact absurd e1 hd
        · split
          · rename_i u2 e
            injection e with e1 e2
            exact absurd e1 hd
          · rfl
      · intro h
        split at h
        · rename_i u2 e
          injection e with e1 e2
          exact absurd e1 hd
        · cases h
theorem tok_app (k : Nat) (c : UInt8) (r y : List UInt8) (hy : ∃ c r, y = c :: r ∧ (blankQ c = true ∨ c = 41)) : ((tokQ k (c :: r)).tok ≠ .bad → tokQ k (c :: (r ++ y)) = tokQ k (c :: r)) ∧ ((tokQ k (c :: r)).tok = .bad → quoB (tokQ k (c :: (r ++ y))).tok = true) := by
  have hdash : dashB (r ++ y) = dashB r := by
    cases r with
    | cons d t => rfl
    | nil =>
      obtain ⟨c, r, rfl, hc⟩ := hy
      show (!blankQ c && c != 41) = false
      rcases hc with h | h
      · rw [h]; rfl
      · rw [h]; decide
  unfold tokQ
  dsimp only
  rw [hdash]
  by_cases h1 : c = 40
  · rw [if_pos h1, if_pos h1]; exact ⟨fun _ => rfl, fun h => by cases h⟩
  · rw [if_neg h1, if_neg h1]
    by_cases h2 : c = 41
    · rw [if_pos h2, if_pos h2]; exact ⟨fun _ => rfl, fun h => by cases h⟩
    · rw [if_neg h2, if_neg h2]
      by_cases h3 : c = 34
      · rw [if_pos h3, if_pos h3]; exact ⟨fun h => quo_app _ _ _ _ _ _ h, fun _ => quo_quoB _ _ _ _ _⟩
      · rw [if_neg h3, if_neg h3]
        by_cases h4 : c = 45 ∧ dashB r = true
        · rw [if_pos h4, if_pos h4]; exact ⟨fun _ => rfl, fun h => by cases h⟩
        · rw [if_neg h4, if_neg h4]; exact bare_app k (c :: r) y hy
theorem gap_short : ∀ (l y : List UInt8), gapQ l < l.length → gapQ (l ++ y) = gapQ l
  | [], y, h => by simp [gapQ] at h
  | c :: l, y, h => by
    unfold gapQ at h ⊢
    by_cases hc : blankQ c = true
    · rw [List.takeWhile_cons_of_pos hc] at h
      rw [List.cons_append, List.takeWhile_cons_of_pos hc, List.takeWhile_cons_of_pos hc]
      have := gap_short l y (by unfold gapQ; simp only [List.length_cons] at h; omega)
      unfold gapQ at this
      simp only [List.length_cons, this]
    · rw [List.cons_append, List.takeWhile_cons_of_neg hc, List.takeWhile_cons_of_neg hc]
theorem gap_full : ∀ (l y : List UInt8), gapQ l = l.length → gapQ (l ++ y) = l.length + gapQ y
  | [], y, _ => by simp
  | c :: l, y, h => by
    unfold gapQ at h
    by_cases hc : blankQ c = true
    · rw [List.takeWhile_cons_of_pos hc] at h
      have := gap_full l y (by unfold gapQ; simp only [List.length_cons] at h; omega)
      unfold gapQ at this ⊢
      rw [List.cons_append, List.takeWhile_cons_of_pos hc]
      simp only [List.length_cons, this]
      omega
    · rw [List.takeWhile_cons_of_neg hc] at h
      simp at h
theorem tok_empty {k : Nat} {l : List UInt8} (h : finB (tokQ k l).tok = true) : l = [] := by
  cases l with
  | nil => rfl
  | cons c r =>
    exfalso
    unfold tokQ at h
    dsimp only at h
    split at h
    · cases h
    · split at h
      · cases h
      · split at h
        · unfold quoQ at h
          split at h <;> cases h
        · split at h
          · cases h
          · unfold bareQ at h
            dsimp only at h
            split at h
            · split at h
              · unfold quoQ at h
                split at h <;> cases h
              · cases h
            · cases h
theorem drop_mid (x a y : List UInt8) (i : Nat) (hi : i ≤ a.length) : (x ++ (a ++ y)).drop (i + x.length) = a.drop i ++ y := by
  rw [Nat.add_comm, ← List.drop_drop, List.drop_left, List.drop_append_of_le_length hi]
/-- The next token, within the longer text. -/
theorem peek_mid (x a y : List UInt8) (hy : ShutAt y) (i : Nat) (hi : i ≤ a.length) :
    ((peekQ a i).tok ≠ .fin → (peekQ a i).tok ≠ .bad → peekQ (x ++ (a ++ y)) (i + x.length) = (peekQ a i).on x.length) ∧
    ((peekQ a i).tok = .bad → quoB (peekQ (x ++ (a ++ y)) (i + x.length)).tok = true) ∧
    ((peekQ a i).tok = .fin → (peekQ (x ++ (a ++ y)) (i + x.length)).tok = .sht ∧ (peekQ (x ++ (a ++ y)) (i + x.length)).dst = x.length + a.length + gapQ y + 1) := by
  have hl : (a.drop i).length = a.length - i := List.length_drop
  obtain ⟨l, hL⟩ : ∃ l, a.drop i = l := ⟨_, rfl⟩
  rw [hL] at hl
  have hd : (x ++ (a ++ y)).drop (i + x.length) = l ++ y := by rw [drop_mid x a y i hi, hL]
  have hp : peekQ a i = tokQ (i + gapQ l) (l.drop (gapQ l)) := by
    unfold peekQ
    rw [← List.drop_drop, hL]
  have hp2 : peekQ (x ++ (a ++ y)) (i + x.length) = tokQ (i + gapQ (l ++ y) + x.length) ((l ++ y).drop (gapQ (l ++ y))) := by
    have e : (x ++ (a ++ y)).drop (i + x.length + gapQ (l ++ y)) = (l ++ y).drop (gapQ (l ++ y)) := by rw [← List.drop_drop, hd]
    unfold peekQ
    rw [hd, e, show i + x.length + gapQ (l ++ y) = i + gapQ (l ++ y) + x.length by omega]
  have hg := gap_le l
  by_cases hc : gapQ l < l.length
  · obtain ⟨c, r, hcr⟩ : ∃ c r, l.drop (gapQ l) = c :: r := by
      cases h : l.drop (gapQ l) with
      | nil =>
        have := congrArg List.length h
        rw [List.length_drop] at this
        simp at this
        omega
      | cons c r => exact ⟨c, r, rfl⟩
    rw [gap_short l y hc, List.drop_append_of_le_length hg, hcr, tok_shift] at hp2
    rw [hcr] at hp
    have ht := tok_app (i + gapQ l) c r y hy.head
    rw [← List.cons_append] at ht
    refine ⟨fun _ h => ?_, fun h => ?_, fun h => ?_⟩
    · rw [hp] at h ⊢
      rw [hp2, ht.1 h]
    · rw [hp] at h
      rw [hp2]
      exact ht.2 h
    · rw [hp] at h
      exact absurd (tok_empty (by rw [h]; rfl)) (by simp)
  · have hge : gapQ l = l.length := by omega
    have h0 : l.drop (gapQ l) = [] := List.drop_of_length_le (by omega)
    rw [h0] at hp
    have hf : (peekQ a i).tok = .fin := by rw [hp]; rfl
    obtain ⟨r, hr⟩ := hy
    have h1 : (l ++ y).drop (gapQ (l ++ y)) = 41 :: r := by
      rw [gap_full l y hge, ← List.drop_drop, List.drop_left]
      exact hr
    rw [h1, gap_full l y hge] at hp2
    refine ⟨fun h => absurd hf h, fun h => (by rw [hf] at h; cases h), fun _ => ?_⟩
    rw [hp2]
    refine ⟨rfl, ?_⟩
    show i + (l.length + gapQ y) + x.length + 1 = _
    omega
/-- Outcomes that more fuel, another place or one more level keep. -/
def ShR (o : Nat) : QRes → QRes → Prop
  | .ok q e, r => r = .ok q (e + o)
  | .err e p, r => e = 10 → r = .err 10 (p + o)
theorem ShR.bind {o : Nat} {r r' : QRes} {k k' : Qry → Nat → QRes} (h : ShR o r r') (hk : ∀ q e, r = .ok q e → ShR o (k q e) (k' q (e + o))) : ShR o (r.then k) (r'.then k') := by
  cases r with
  | ok q e =>
    have h : r' = .ok q (e + o) := h
    subst h
    exact hk q e rfl
  | err e p =>
    intro he
    rw [h he]
    rfl
theorem run_bad (s : List UInt8) (f d i : Nat) (h : (peekQ s i).tok = .bad) : ∃ p, runQ s f .term d i = .err 2 p := by
  cases f with
  | zero => exact ⟨0, rfl⟩
  | succ f =>
    refine ⟨(peekQ s i).src, ?_⟩
    conv => lhs; unfold runQ
    rw [h]
    rfl
theorem quoB_bare {t : QTok} (w : List UInt8) (h : quoB t = true) : isBare w t = false := by
  cases t <;> first | rfl | cases h
theorem run_mid (x a y : List UInt8) (hy : ShutAt y) : ∀ (f : Nat) (k : QKind) (d i : Nat), i ≤ a.length → ShR x.length (runQ a f k d i) (runQ (x ++ (a ++ y)) f k d (i + x.length))
  | 0, _, _, _, _ => fun h => by cases h
  | f + 1, .term, d, i, hi => by
    have hp := peek_mid x a y hy i hi
    have hin := peek_in a i hi
    conv => arg 2; unfold runQ
    conv => arg 3; unfold runQ
    by_cases h0 : headQ (peekQ a i).tok = 0
    · rw [if_pos h0]
      exact fun h => by cases h
    · have hb : (peekQ a i).tok ≠ .bad := fun e => h0 (by rw [e]; rfl)
      have hf : (peekQ a i).tok ≠ .fin := fun e => h0 (by rw [e]; rfl)
      rw [hp.1 hf hb]
      unfold Pce.on
      dsimp only
      rw [if_neg h0, if_neg h0]
      split
      · unfold leafQ
        dsimp only
        split
        · rfl
        · exact fun h => by cases h
      · split
        · exact fun _ => rfl
        · split
          · refine (run_mid x a y hy f .term (d + 1) _ hin.2.2.2).bind fun q e _ => rfl
          · refine (run_mid x a y hy f .qry (d + 1) _ hin.2.2.2).bind fun q e hr => ?_
            have hq := run_in a f .qry (d + 1) _ hin.2.2.2
            rw [hr] at hq
            have hp2 := peek_mid x a y hy e hq.2
            by_cases hs : shutB (peekQ a e).tok = true
            · have hb2 : (peekQ a e).tok ≠ .bad := fun e => by rw [e] at hs; cases hs
              have hf2 : (peekQ a e).tok ≠ .fin := fun e => by rw [e] at hs; cases hs
              rw [hp2.1 hf2 hb2, if_pos hs]
              unfold Pce.on
              dsimp only
              rw [if_pos hs]
              rfl
            · rw [if_neg hs]
              exact fun h => by cases h
  | f + 1, .row, d, i, hi => by
    conv => arg 2; unfold runQ
    conv => arg 3; unfold runQ
    refine (run_mid x a y hy f .term d i hi).bind fun q e hr => ?_
    have hq := run_in a f .term d i hi
    rw [hr] at hq
    exact run_mid x a y hy f _ d e hq.2
  | f + 1, .qry, d, i, hi => by
    conv => arg 2; unfold runQ
    conv => arg 3; unfold runQ
    refine (run_mid x a y hy f .row d i hi).bind fun q e hr => ?_
    have hq := run_in a f .row d i hi
    rw [hr] at hq
    exact run_mid x a y hy f _ d e hq.2
  | f + 1, .rows l, d, i, hi => by
    have hp := peek_mid x a y hy i hi
    have hin := peek_in a i hi
    conv => arg 2; unfold runQ
    conv => arg 3; unfold runQ
    by_cases hf : (peekQ a i).tok = .fin
    · rw [hf, (hp.2.2 hf).1]
      rfl
    · by_cases hb : (peekQ a i).tok = .bad
      · rw [hb]
        obtain ⟨p, h⟩ := run_bad a f d i hb
        show ShR _ ((runQ a f .term d i).then _) _
        rw [h]
        exact fun h => by cases h
      · rw [hp.1 hf hb]
        unfold Pce.on
        dsimp only
        split
        · rfl
        · have hle : (if isBare wAND (peekQ a i).tok then (peekQ a i).dst else i) ≤ a.length := by
            split
            · exact hin.2.2.2
            · exact hi
          rw [show (if isBare wAND (peekQ a i).tok then (peekQ a i).dst + x.length else i + x.length) = (if isBare wAND (peekQ a i).tok then (peekQ a i).dst else i) + x.length by split <;> rfl]
          refine (run_mid x a y hy f .term d _ hle).bind fun q e hr => ?_
          have hq := run_in a f .term d _ hle
          rw [hr] at hq
          exact run_mid x a y hy f _ d e hq.2
  | f + 1, .qrys l, d, i, hi => by
    have hp := peek_mid x a y hy i hi
    have hin := peek_in a i hi
    conv => arg 2; unfold runQ
    conv => arg 3; unfold runQ
    by_cases hf : (peekQ a i).tok = .fin
    · rw [hf, (hp.2.2 hf).1]
      rfl
    · by_cases hb : (peekQ a i).tok = .bad
      · rw [quoB_bare wOR (hp.2.1 hb), hb]
        rfl
      · rw [hp.1 hf hb]
        unfold Pce.on
        dsimp only
        split
        · refine (run_mid x a y hy f .row d _ hin.2.2.2).bind fun q e hr => ?_
          have hq := run_in a f .row d _ hin.2.2.2
          rw [hr] at hq
          exact run_mid x a y hy f _ d e hq.2
        · rfl
/-- One level deeper: the same, or too deep. -/
def DeR : QRes → QRes → Prop
  | .ok q e, r => r = .ok q e ∨ ∃ p, r = .err 10 p
  | .err e _, r => e = 10 → ∃ p, r = .err 10 p
theorem DeR.deep (r : QRes) (p : Nat) : DeR r (.err 10 p) := by
  cases r with
  | ok q e => exact .inr ⟨p, rfl⟩
  | err e a => exact fun _ => ⟨p, rfl⟩
theorem DeR.same (r : QRes) : DeR r r := by
  cases r with
  | ok q e => exact .inl rfl
  | err e a => exact fun h => ⟨a, by rw [h]⟩
theorem DeR.bind {r r' : QRes} {k k' : Qry → Nat → QRes} (h : DeR r r') (hk : ∀ q e, DeR (k q e) (k' q e)) : DeR (r.then k) (r'.then k') := by
  cases r with
  | ok q e =>
    rcases h with h | ⟨p, h⟩
    · subst h
      exact hk q e
    · subst h
      exact DeR.deep _ _
  | err e a =>
    intro he
    obtain ⟨p, h⟩ := h he
    exact ⟨p, by rw [h]; rfl⟩
theorem run_deeper (s : List UInt8) : ∀ (f : Nat) (k : QKind) (d i : Nat), DeR (runQ s f k d i) (runQ s f k (d + 1) i)
  | 0, _, _, _ => DeR.same _
  | f + 1, .term, d, i => by
    unfold runQ
    split
    · exact DeR.same _
    · split
      · exact DeR.same _
      · by_cases h8 : 8 ≤ d + 1
        · rw [if_pos h8]
          exact DeR.deep _ _
        · rw [if_neg h8, if_neg (by omega)]
          split
          · exact (run_deeper s f .term (d + 1) _).bind fun q e => DeR.same _
          · exact (run_deeper s f .qry (d + 1) _).bind fun q e => DeR.same _
  | f + 1, .row, d, i => by
    unfold runQ
    exact (run_deeper s f .term d i).bind fun q e => run_deeper s f _ d e
  | f + 1, .qry, d, i => by
    unfold runQ
    exact (run_deeper s f .row d i).bind fun q e => run_deeper s f _ d e
  | f + 1, .rows l, d, i => by
    unfold runQ
    split
    · exact DeR.same _
    · exact (run_deeper s f .term d _).bind fun q e => run_deeper s f _ d e
  | f + 1, .qrys l, d, i => by
    unfold runQ
    split
    · exact (run_deeper s f .row d _).bind fun q e => run_deeper s f _ d e
    · exact DeR.same _
/-- More fuel: the same. -/
def StR : QRes → QRes → Prop
  | .ok q e, r => r = .ok q e
  | .err e a, r => e = 10 → r = .err e a
theorem StR.same (r : QRes) : StR r r := by
  cases r with
  | ok q e => rfl
  | err e a => exact fun _ => rfl
theorem StR.bind {r r' : QRes} {k k' : Qry → Nat → QRes} (h : StR r r') (hk : ∀ q e, StR (k q e) (k' q e)) : StR (r.then k) (r'.then k') := by
  cases r with
  | ok q e =>
    have h : r' = .ok q e := h
    subst h
    exact hk q e
  | err e a =>
    intro he
    rw [h he]
    rfl
theorem StR.trans {a b c : QRes} (h1 : StR a b) (h2 : StR b c) : StR a c := by
  cases a with
  | ok q e =>
    have h1 : b = .ok q e := h1
    subst h1
    exact h2
  | err e p =>
    intro he
    have h1 := h1 he
    subst h1
    exact h2 he
theorem run_more (s : List UInt8) : ∀ (f : Nat) (k : QKind) (d i : Nat), StR (runQ s f k d i) (runQ s (f + 1) k d i)
  | 0, _, _, _ => fun h => by cases h
  | f + 1, .term, d, i => by
    conv => arg 1; unfold runQ
    conv => arg 2; unfold runQ
    split
    · exact StR.same _
    · split
      · exact StR.same _
      · split
        · exact StR.same _
        · split
          · exact (run_more s f .term (d + 1) _).bind fun q e => StR.same _
          · exact (run_more s f .qry (d + 1) _).bind fun q e => StR.same _
  | f + 1, .row, d, i => by
    conv => arg 1; unfold runQ
    conv => arg 2; unfold runQ
    exact (run_more s f .term d i).bind fun q e => run_more s f _ d e
  | f + 1, .qry, d, i => by
    conv => arg 1; unfold runQ
    conv => arg 2; unfold runQ
    exact (run_more s f .row d i).bind fun q e => run_more s f _ d e
  | f + 1, .rows l, d, i => by
    conv => arg 1; unfold runQ
    conv => arg 2; unfold runQ
    split
    · exact StR.same _
    · exact (run_more s f .term d _).bind fun q e => run_more s f _ d e
  | f + 1, .qrys l, d, i => by
    conv => arg 1; unfold runQ
    conv => arg 2; unfold runQ
    split
    · exact (run_more s f .row d _).bind fun q e => run_more s f _ d e
    · exact StR.same _
theorem run_fuel (s : List UInt8) (f : Nat) (k : QKind) (d i : Nat) : ∀ g, StR (runQ s f k d i) (runQ s (f + g) k d i)
  | 0 => StR.same _
  | g + 1 => (run_fuel s f k d i g).trans (run_more s (f + g) k d i)
/-- What a query is at depth d: p, read up to e; or too deep. -/
def FitsQ (a : List UInt8) (p : Qry) (e d : Nat) : Prop := ∀ F, 3 * a.length + 9 ≤ F → runQ a F .qry d 0 = .ok p e
def TooQ (a : List UInt8) (d : Nat) : Prop := ∀ F, 3 * a.length + 9 ≤ F → ∃ q, runQ a F .qry d 0 = .err 10 q
theorem fits_of {a : List UInt8} {p : Qry} {e d : Nat} (h : runQ a (3 * a.length + 9) .qry d 0 = .ok p e) : FitsQ a p e d := fun F hF => by
  have h1 := run_fuel a (3 * a.length + 9) .qry d 0 (F - (3 * a.length + 9))
  rw [h, show 3 * a.length + 9 + (F - (3 * a.length + 9)) = F by omega] at h1
  exact h1
theorem too_of {a : List UInt8} {p d : Nat} (h : runQ a (3 * a.length + 9) .qry d 0 = .err 10 p) : TooQ a d := fun F hF => by
  have h1 := run_fuel a (3 * a.length + 9) .qry d 0 (F - (3 * a.length + 9))
  rw [h, show 3 * a.length + 9 + (F - (3 * a.length + 9)) = F by omega] at h1
  exact ⟨p, h1 rfl⟩
theorem FitsQ.next {a : List UInt8} {p : Qry} {e d : Nat} (h : FitsQ a p e d) : FitsQ a p e (d + 1) ∨ TooQ a (d + 1) := by
  have h1 := run_deeper a (3 * a.length + 9) .qry d 0
  rw [h _ (Nat.le_refl _)] at h1
  rcases h1 with h1 | ⟨p, h1⟩
  · exact .inl (fits_of h1)
  · exact .inr (too_of h1)
theorem TooQ.next {a : List UInt8} {d : Nat} (h : TooQ a d) : TooQ a (d + 1) := by
  have h1 := run_deeper a (3 * a.length + 9) .qry d 0
  obtain ⟨q, h2⟩ := h _ (Nat.le_refl _)
  rw [h2] at h1
  obtain ⟨p, h1⟩ := h1 rfl
  exact too_of h1
theorem FitsQ.not_too {a : List UInt8} {p : Qry} {e d : Nat} (h : FitsQ a p e d) (h2 : TooQ a d) : False := by
  obtain ⟨q, h3⟩ := h2 _ (Nat.le_refl _)
  rw [h _ (Nat.le_refl _)] at h3
  cases h3
/-- A term that begins with a parenthesis, the query a in it. -/
theorem brk_run (x a y : List UInt8) (hy : ShutAt y) (p : Qry) (e d j F : Nat) (hF : 3 * a.length + 9 ≤ F) (he : e ≤ a.length) (hfin : (peekQ a e).tok = .fin)
    (hj : (peekQ (x ++ (a ++ y)) j).tok = .opn) (hd : (peekQ (x ++ (a ++ y)) j).dst = x.length) (h8 : d < 8) :
    (FitsQ a p e (d + 1) → runQ (x ++ (a ++ y)) (F + 1) .term d j = .ok p (x.length + a.length + gapQ y + 1)) ∧ (TooQ a (d + 1) → ∃ q, runQ (x ++ (a ++ y)) (F + 1) .term d j = .err 10 q) := by
  have hm := run_mid x a y hy F .qry (d + 1) 0 (Nat.zero_le _)
  rw [Nat.zero_add] at hm
  have hr : runQ (x ++ (a ++ y)) (F + 1) .term d j = (runQ (x ++ (a ++ y)) F .qry (d + 1) x.length).then fun q b => if shutB (peekQ (x ++ (a ++ y)) b).tok then .ok q (peekQ (x ++ (a ++ y)) b).dst else .err 2 (peekQ (x ++ (a ++ y)) b).src := by
    conv => lhs; unfold runQ
    rw [hj, hd, if_neg (by decide), if_neg (by decide), if_neg (by omega), if_neg (by decide)]
  rw [hr]
  constructor
  · intro h
    rw [h F hF] at hm
    rw [show runQ (x ++ (a ++ y)) F .qry (d + 1) x.length = .ok p (e + x.length) from hm]
    obtain ⟨h1, h2⟩ := (peek_mid x a y hy e he).2.2 hfin
    show (if shutB (peekQ (x ++ (a ++ y)) (e + x.length)).tok = true then QRes.ok p (peekQ (x ++ (a ++ y)) (e + x.length)).dst else _) = _
    rw [h1, h2]
    rfl
  · intro h
    obtain ⟨q, h1⟩ := h F hF
    rw [h1] at hm
    rw [hm rfl]
    exact ⟨_, rfl⟩
end Go.Proofs.YtomcdhmcjndioaaGreatDoor
end
section
namespace Go.Proofs.YtomcdhmcjndioaaGreatDoor
open Go.RowKit
set_option linter.unusedVariables false

theorem peek_drop {s z : List UInt8} {j : Nat} (h : s.drop j = z) : peekQ s j = (peekQ z 0).on j := by
  have e : s.drop (j + gapQ (s.drop j)) = z.drop (0 + gapQ z) := by rw [← List.drop_drop, h, Nat.zero_add]
  unfold peekQ
  rw [e, h, List.drop_zero, show j + gapQ z = 0 + gapQ z + j by omega, tok_shift]
theorem rows_stop {s : List UInt8} {l : List Qry} {f d b : Nat} (h : stopRow (peekQ s b).tok = true) : runQ s (f + 1) (.rows l) d b = .ok (joinQ 11 l) b := by
  conv => lhs; unfold runQ
  rw [if_pos h]
theorem rows_next {s : List UInt8} {l : List Qry} {f d b : Nat} (h : stopRow (peekQ s b).tok = false) (h2 : isBare wAND (peekQ s b).tok = false) : runQ s (f + 1) (.rows l) d b = (runQ s f .term d b).then fun q b => runQ s f (.rows (l ++ [q])) d b := by
  conv => lhs; unfold runQ
  rw [h, h2]
  rfl
theorem qrys_stop {s : List UInt8} {l : List Qry} {f d b : Nat} (h : isBare wOR (peekQ s b).tok = false) : runQ s (f + 1) (.qrys l) d b = .ok (joinQ 12 l) b := by
  conv => lhs; unfold runQ
  rw [h]
  rfl
theorem qrys_next {s : List UInt8} {l : List Qry} {f d b : Nat} (h : isBare wOR (peekQ s b).tok = true) : runQ s (f + 1) (.qrys l) d b = (runQ s f .row d (peekQ s b).dst).then fun q b => runQ s f (.qrys (l ++ [q])) d b := by
  conv => lhs; unfold runQ
  rw [h]
  rfl
theorem qry_open (s : List UInt8) (f d j : Nat) : runQ s (f + 1) .qry d j = (runQ s f .row d j).then fun q b => runQ s f (.qrys [q]) d b := rfl
theorem row_open (s : List UInt8) (f d j : Nat) : runQ s (f + 1) .row d j = (runQ s f .term d j).then fun q b => runQ s f (.rows [q]) d b := rfl
/-- What a query that is parsed is. -/
theorem parse_ok {a : List UInt8} {p : Qry} {n : Nat} (h : parseQ a = (p, 0, n)) (hp : p.op ≠ 1) : ∃ e, e ≤ a.length ∧ (peekQ a e).tok = .fin ∧ FitsQ a p e 0 := by
  unfold parseQ at h
  split at h
  · injection h with h1 h2
    injection h2 with h2
    cases h2
  · split at h
    · injection h with h1 h2
      exact absurd (by rw [← h1]; rfl) hp
    · have hi := run_in a (3 * a.length + 9) .qry 0 0 (Nat.zero_le _)
      split at h
      · rename_i q e he
        rw [he] at hi
        split at h
        · rename_i hf
          injection h with h1 h2
          subst h1
          refine ⟨e, hi.2, ?_, fits_of he⟩
          revert hf
          cases (peekQ a e).tok <;> intro hf <;> first | rfl | cases hf
        · injection h with h1 h2
          injection h2 with h2
          cases h2
      · rename_i e m he
        rw [he] at hi
        injection h with h1 h2
        injection h2 with h2 h3
        subst h2
        rcases hi.2 with h4 | h4 <;> cases h4
theorem parse_run {s : List UInt8} (hs : s.length ≤ 1000) (h0 : finB (peekQ s 0).tok = false) :
    (∀ q e, runQ s (3 * s.length + 9) .qry 0 0 = .ok q e → finB (peekQ s e).tok = true → parseQ s = (q, 0, 0)) ∧ (∀ e a, runQ s (3 * s.length + 9) .qry 0 0 = .err e a → parseQ s = (noQ, e, a)) := by
  constructor
  · intro q e h1 h2
    unfold parseQ
    rw [if_neg (by omega), h0, h1]
    dsimp only
    rw [if_pos h2]
    rfl
  · intro e a h1
    unfold parseQ
    rw [if_neg (by omega), h0, h1]
    rfl
theorem drop_past (x a y z : List UInt8) (n : Nat) (h : y.drop n = z) : (x ++ (a ++ y)).drop (x.length + a.length + n) = z := by
  rw [← List.drop_drop, ← List.drop_drop, List.drop_left, List.drop_left, h]
theorem joins_one {a : List UInt8} {p : Qry} {e : Nat} (ha : a.length ≤ 400) (he : e ≤ a.length) (hf : (peekQ a e).tok = .fin) :
    (FitsQ a p e 1 → parseQ ([40] ++ (a ++ [32, 41])) = (p, 0, 0)) ∧ (TooQ a 1 → ∃ q, parseQ ([40] ++ (a ++ [32, 41])) = (noQ, 10, q)) := by
  obtain ⟨s, hs⟩ : ∃ s, [40] ++ (a ++ [32, 41]) = s := ⟨_, rfl⟩
  have hlen : s.length = a.length + 3 := by rw [← hs]; simp
  have hj : peekQ s 0 = ⟨0, 1, .opn⟩ := by rw [← hs]; rfl
  have hb := brk_run [40] a [32, 41] ⟨[], rfl⟩ p e 0 0 (3 * a.length + 15) (by omega) he hf (by rw [hs, hj]) (by rw [hs, hj]; rfl) (by omega)
  rw [hs, show gapQ [32, 41] = 1 from rfl] at hb
  have hend : s.drop (([40] : List UInt8).length + a.length + 1 + 1) = [] := List.drop_of_length_le (by rw [hlen]; simp; omega)
  have hfin := peek_drop hend
  rw [show peekQ [] 0 = ⟨0, 0, .fin⟩ from rfl] at hfin
  obtain ⟨hr1, hr2⟩ := parse_run (s := s) (by omega) (by rw [hj]; rfl)
  rw [show 3 * s.length + 9 = 3 * a.length + 15 + 1 + 1 + 1 by omega] at hr1 hr2
  rw [hs]
  constructor
  · intro h
    refine hr1 p _ ?_ (by rw [hfin]; rfl)
    rw [qry_open, row_open, hb.1 h]
    show ((runQ _ (3 * a.length + 15 + 1) (.rows [p]) 0 _).then _) = _
    rw [rows_stop (by rw [hfin]; rfl)]
    show runQ _ (3 * a.length + 15 + 1 + 1) (.qrys [p]) 0 _ = _
    rw [qrys_stop (by rw [hfin]; rfl)]
    rfl
  · intro h
    obtain ⟨q, hq⟩ := hb.2 h
    refine ⟨q, hr2 10 q ?_⟩
    rw [qry_open, row_open, hq]
    rfl
theorem joins_four {a : List UInt8} {p : Qry} {e : Nat} (ha : a.length ≤ 400) (he : e ≤ a.length) (hf : (peekQ a e).tok = .fin) :
    (FitsQ a p e 2 → parseQ ([45, 40] ++ (a ++ [41])) = (.mk 13 0 [] 0 [p], 0, 0)) ∧ (TooQ a 2 → ∃ q, parseQ ([45, 40] ++ (a ++ [41])) = (noQ, 10, q)) := by
  obtain ⟨s, hs⟩ : ∃ s, [45, 40] ++ (a ++ [41]) = s := ⟨_, rfl⟩
  have hlen : s.length = a.length + 3 := by rw [← hs]; simp
  have hj0 : peekQ s 0 = ⟨0, 1, .dash⟩ := by rw [← hs]; rfl
  have hj : peekQ s 1 = ⟨1, 2, .opn⟩ := by rw [← hs]; rfl
  have hb := brk_run [45, 40] a [41] ⟨[], rfl⟩ p e 1 1 (3 * a.length + 14) (by omega) he hf (by rw [hs, hj]) (by rw [hs, hj]; rfl) (by omega)
  rw [hs, show gapQ [41] = 0 from rfl] at hb
  have hend : s.drop (([45, 40] : List UInt8).length + a.length + 0 + 1) = [] := List.drop_of_length_le (by rw [hlen]; simp; omega)
  have hfin := peek_drop hend
  rw [show peekQ [] 0 = ⟨0, 0, .fin⟩ from rfl] at hfin
  obtain ⟨hr1, hr2⟩ := parse_run (s := s) (by omega) (by rw [hj0]; rfl)
  rw [show 3 * s.length + 9 = 3 * a.length + 14 + 1 + 1 + 1 + 1 by omega] at hr1 hr2
  rw [hs]
  have hterm : runQ s (3 * a.length + 14 + 1 + 1) .term 0 0 = (runQ s (3 * a.length + 14 + 1) .term 1 1).then fun q b => .ok (.mk 13 0 [] 0 [q]) b := by
    conv => lhs; unfold runQ
    rw [hj0]
    rfl
  constructor
  · intro h
    refine hr1 _ _ ?_ (by rw [hfin]; rfl)
    rw [qry_open, row_open, hterm, hb.1 h]
    show ((runQ _ (3 * a.length + 14 + 1 + 1) (.rows [.mk 13 0 [] 0 [p]]) 0 _).then _) = _
    rw [rows_stop (by rw [hfin]; rfl)]
    show runQ _ (3 * a.length + 14 + 1 + 1 + 1) (.qrys [.mk 13 0 [] 0 [p]]) 0 _ = _
    rw [qrys_stop (by rw [hfin]; rfl)]
    rfl
  · intro h
    obtain ⟨q, hq⟩ := hb.2 h
    refine ⟨q, hr2 10 q ?_⟩
    rw [qry_open, row_open, hterm, hq]
    rfl
theorem joins_two {a b : List UInt8} {p q : Qry} {e g : Nat} (ha : a.length ≤ 400) (hb : b.length ≤ 400) (he : e ≤ a.length) (hf : (peekQ a e).tok = .fin) (hg : g ≤ b.length) (hh : (peekQ b g).tok = .fin) :
    (FitsQ a p e 1 → FitsQ b q g 1 → parseQ ([40] ++ (a ++ ([41, 32, 40] ++ (b ++ [41])))) = (.mk 11 0 [] 0 [p, q], 0, 0)) ∧ (TooQ a 1 → ∃ m, parseQ ([40] ++ (a ++ ([41, 32, 40] ++ (b ++ [41])))) = (noQ, 10, m)) ∧ (FitsQ a p e 1 → TooQ b 1 → ∃ m, parseQ ([40] ++ (a ++ ([41, 32, 40] ++ (b ++ [41])))) = (noQ, 10, m)) := by
  obtain ⟨s, hs⟩ : ∃ s, [40] ++ (a ++ ([41, 32, 40] ++ (b ++ [41]))) = s := ⟨_, rfl⟩
  have hlen : s.length = a.length + b.length + 5 := by rw [← hs]; simp; omega
  have hj : peekQ s 0 = ⟨0, 1, .opn⟩ := by rw [← hs]; rfl
  have b1 := brk_run [40] a ([41, 32, 40] ++ (b ++ [41])) ⟨_, rfl⟩ p e 0 0 (3 * a.length + 3 * b.length + 21) (by omega) he hf (by rw [hs, hj]) (by rw [hs, hj]; rfl) (by omega)
  rw [hs, show gapQ ([41, 32, 40] ++ (b ++ [41])) = 0 from rfl] at b1
  have d1 : s.drop (([40] : List UInt8).length + a.length + 0 + 1) = [32, 40] ++ (b ++ [41]) := by rw [← hs]; exact drop_past [40] a _ _ 1 rfl
  have k1 := peek_drop d1
  rw [show peekQ ([32, 40] ++ (b ++ [41])) 0 = ⟨1, 2, .opn⟩ from rfl] at k1
  unfold Pce.on at k1
  dsimp only at k1
  have hs2 : ([40] ++ (a ++ [41, 32, 40])) ++ (b ++ [41]) = s := by rw [← hs]; simp
  have b2 := brk_run ([40] ++ (a ++ [41, 32, 40])) b [41] ⟨[], rfl⟩ q g 0 (([40] : List UInt8).length + a.length + 0 + 1) (3 * a.length + 3 * b.length + 20) (by omega) hg hh (by rw [hs2, k1]) (by rw [hs2, k1]; simp; omega) (by omega)
  rw [hs2, show gapQ [41] = 0 from rfl] at b2
  have d2 : s.drop (([40] ++ (a ++ [41, 32, 40])).length + b.length + 0 + 1) = [] := List.drop_of_length_le (by rw [hlen]; simp; omega)
  have k2 := peek_drop d2
  rw [show peekQ [] 0 = ⟨0, 0, .fin⟩ from rfl] at k2
  obtain ⟨hr1, hr2⟩ := parse_run (s := s) (by omega) (by rw [hj]; rfl)
  rw [show 3 * s.length + 9 = 3 * a.length + 3 * b.length + 20 + 1 + 1 + 1 + 1 by omega] at hr1 hr2
  rw [show 3 * a.length + 3 * b.length + 21 = 3 * a.length + 3 * b.length + 20 + 1 by omega] at b1
  rw [hs]
  refine ⟨fun h h2 => ?_, fun h => ?_, fun h h2 => ?_⟩
  · refine hr1 _ _ ?_ (by rw [k2]; rfl)
    rw [qry_open, row_open, b1.1 h]
    show ((runQ _ (3 * a.length + 3 * b.length + 20 + 1 + 1) (.rows [p]) 0 _).then _) = _
    rw [rows_next (by rw [k1]; rfl) (by rw [k1]; rfl), b2.1 h2]
    show ((runQ _ (3 * a.length + 3 * b.length + 20 + 1) (.rows [p, q]) 0 _).then _) = _
    rw [rows_stop (by rw [k2]; rfl)]
    show runQ _ (3 * a.length + 3 * b.length + 20 + 1 + 1 + 1) (.qrys [.mk 11 0 [] 0 [p, q]]) 0 _ = _
    rw [qrys_stop (by rw [k2]; rfl)]
    rfl
  · obtain ⟨m, hm⟩ := b1.2 h
    refine ⟨m, hr2 10 m ?_⟩
    rw [qry_open, row_open, hm]
    rfl
  · obtain ⟨m, hm⟩ := b2.2 h2
    refine ⟨m, hr2 10 m ?_⟩
    rw [qry_open, row_open, b1.1 h]
    show ((runQ _ (3 * a.length + 3 * b.length + 20 + 1 + 1) (.rows [p]) 0 _).then _) = _
    rw [rows_next (by rw [k1]; rfl) (by rw [k1]; rfl), hm]
    rfl
theorem joins_three {a b : List UInt8} {p q : Qry} {e g : Nat} (ha : a.length ≤ 400) (hb : b.length ≤ 400) (he : e ≤ a.length) (hf : (peekQ a e).tok = .fin) (hg : g ≤ b.length) (hh : (peekQ b g).tok = .fin) :
    (FitsQ a p e 1 → FitsQ b q g 1 → parseQ ([40] ++ (a ++ ([41, 79, 82, 32, 40] ++ (b ++ [41])))) = (.mk 12 0 [] 0 [p, q], 0, 0)) ∧ (TooQ a 1 → ∃ m, parseQ ([40] ++ (a ++ ([41, 79, 82, 32, 40] ++ (b ++ [41])))) = (noQ, 10, m)) ∧ (FitsQ a p e 1 → TooQ b 1 → ∃ m, parseQ ([40] ++ (a ++ ([41, 79, 82, 32, 40] ++ (b ++ [41])))) = (noQ, 10, m)) := by
  obtain ⟨s, hs⟩ : ∃ s, [40] ++ (a ++ ([41, 79, 82, 32, 40] ++ (b ++ [41]))) = s := ⟨_, rfl⟩
  have hlen : s.length = a.length + b.length + 7 := by rw [← hs]; simp; omega
  have hj : peekQ s 0 = ⟨0, 1, .opn⟩ := by rw [← hs]; rfl
  have b1 := brk_run [40] a ([41, 79, 82, 32, 40] ++ (b ++ [41])) ⟨_, rfl⟩ p e 0 0 (3 * a.length + 3 * b.length + 27) (by omega) he hf (by rw [hs, hj]) (by rw [hs, hj]; rfl) (by omega)
  rw [hs, show gapQ ([41, 79, 82, 32, 40] ++ (b ++ [41])) = 0 from rfl] at b1
  have d1 : s.drop (([40] : List UInt8).length + a.length + 0 + 1) = [79, 82, 32, 40] ++ (b ++ [41]) := by rw [← hs]; exact drop_past [40] a _ _ 1 rfl
  have k1 := peek_drop d1
  rw [show peekQ ([79, 82, 32, 40] ++ (b ++ [41])) 0 = ⟨0, 2, .bare wOR⟩ from rfl] at k1
  unfold Pce.on at k1
  dsimp only at k1
  have d3 : s.drop (2 + (([40] : List UInt8).length + a.length + 0 + 1)) = [32, 40] ++ (b ++ [41]) := by
    rw [Nat.add_comm, ← List.drop_drop, d1]; rfl
  have k3 := peek_drop d3
  rw [show peekQ ([32, 40] ++ (b ++ [41])) 0 = ⟨1, 2, .opn⟩ from rfl] at k3
  unfold Pce.on at k3
  dsimp only at k3
  have hs2 : ([40] ++ (a ++ [41, 79, 82, 32, 40])) ++ (b ++ [41]) = s := by rw [← hs]; simp
  have b2 := brk_run ([40] ++ (a ++ [41, 79, 82, 32, 40])) b [41] ⟨[], rfl⟩ q g 0 (2 + (([40] : List UInt8).length + a.length + 0 + 1)) (3 * a.length + 3 * b.length + 26) (by omega) hg hh (by rw [hs2, k3]) (by rw [hs2, k3]; simp; omega) (by omega)
  rw [hs2, show gapQ [41] = 0 from rfl] at b2
  have d2 : s.drop (([40] ++ (a ++ [41, 79, 82, 32, 40])).length + b.length + 0 + 1) = [] := List.drop_of_length_le (by rw [hlen]; simp; omega)
  have k2 := peek_drop d2
  rw [show peekQ [] 0 = ⟨0, 0, .fin⟩ from rfl] at k2
  obtain ⟨hr1, hr2⟩ := parse_run (s := s) (by omega) (by rw [hj]; rfl)
  rw [show 3 * s.length + 9 = 3 * a.length + 3 * b.length + 26 + 1 + 1 + 1 + 1 by omega] at hr1 hr2
  rw [show 3 * a.length + 3 * b.length + 27 = 3 * a.length + 3 * b.length + 26 + 1 by omega] at b1
  rw [hs]
  refine ⟨fun h h2 => ?_, fun h => ?_, fun h h2 => ?_⟩
  · refine hr1 _ _ ?_ (by rw [k2]; rfl)
    rw [qry_open, row_open, b1.1 h]
    show ((runQ _ (3 * a.length + 3 * b.length + 26 + 1 + 1) (.rows [p]) 0 _).then _) = _
    rw [rows_stop (by rw [k1]; rfl)]
    show runQ _ (3 * a.length + 3 * b.length + 26 + 1 + 1 + 1) (.qrys [p]) 0 _ = _
    rw [qrys_next (by rw [k1]; rfl), k1, row_open, b2.1 h2]
    show ((runQ _ (3 * a.length + 3 * b.length + 26 + 1) (.rows [q]) 0 _).then _) = _
    rw [rows_stop (by rw [k2]; rfl)]
    show runQ _ (3 * a.length + 3 * b.length + 26 + 1 + 1) (.qrys [p, q]) 0 _ = _
    rw [qrys_stop (by rw [k2]; rfl)]
    rfl
  · obtain ⟨m, hm⟩ := b1.2 h
    refine ⟨m, hr2 10 m ?_⟩
    rw [qry_open, row_open, hm]
    rfl
  · obtain ⟨m, hm⟩ := b2.2 h2
    refine ⟨m, hr2 10 m ?_⟩
    rw [qry_open, row_open, b1.1 h]
    show ((runQ _ (3 * a.length + 3 * b.length + 26 + 1 + 1) (.rows [p]) 0 _).then _) = _
    rw [rows_stop (by rw [k1]; rfl)]
    show runQ _ (3 * a.length + 3 * b.length + 26 + 1 + 1 + 1) (.qrys [p]) 0 _ = _
    rw [qrys_next (by rw [k1]; rfl), k1, row_open, hm]
    rfl
/-- The law of QueryJoins over the parser's outcomes. -/
theorem joins_say {a b : List UInt8} {p q : Qry} {n m : Nat} (ha : a.length ≤ 400) (hb : b.length ≤ 400) (h1 : parseQ a = (p, 0, n)) (h2 : parseQ b = (q, 0, m)) (hp : p.op ≠ 1) (hq : q.op ≠ 1) :
    ∃ (one two three four : Qry) (g h j k1 k2 k3 k4 : Nat), parseQ ([40] ++ (a ++ [32, 41])) = (one, g, k1) ∧ parseQ ([40] ++ (a ++ ([41, 32, 40] ++ (b ++ [41])))) = (two, h, k2) ∧ parseQ ([40] ++ (a ++ ([41, 79, 82, 32, 40] ++ (b ++ [41])))) = (three, h, k3) ∧ parseQ ([45, 40] ++ (a ++ [41])) = (four, j, k4) ∧
      (g = 0 ∨ g = 10) ∧ (h = 0 ∨ h = 10) ∧ (j = 0 ∨ j = 10) ∧ (h = 0 → g = 0) ∧ (g = 0 → one = p) ∧ (j = 0 → g = 0) ∧ (h = 0 → two = .mk 11 0 [] 0 [p, q] ∧ three = .mk 12 0 [] 0 [p, q]) ∧ (j = 0 → four = .mk 13 0 [] 0 [p]) := by
  obtain ⟨e, he, hf, hA⟩ := parse_ok h1 hp
  obtain ⟨g, hg, hh, hB⟩ := parse_ok h2 hq
  have j1 := joins_one (p := p) ha he hf
  have j2 := joins_two (p := p) (q := q) ha hb he hf hg hh
  have j3 := joins_three (p := p) (q := q) ha hb he hf hg hh
  have j4 := joins_four (p := p) ha he hf
  rcases hA.next with A1 | A1
  · have r1 := j1.1 A1
    have key : ∃ (four : Qry) (j k4 : Nat), parseQ ([45, 40] ++ (a ++ [41])) = (four, j, k4) ∧ (j = 0 ∨ j = 10) ∧ (j = 0 → four = .mk 13 0 [] 0 [p]) := by
      rcases A1.next with A2 | A2
      · exact ⟨_, _, _, j4.1 A2, .inl rfl, fun _ => rfl⟩
      · obtain ⟨x, hx⟩ := j4.2 A2
        exact ⟨_, _, _, hx, .inr rfl, fun h => by cases h⟩
    obtain ⟨four, j, k4, r4, hj, hj2⟩ := key
    rcases hB.next with B1 | B1
    · exact ⟨_, _, _, four, _, _, j, _, _, _, k4, r1, j2.1 A1 B1, j3.1 A1 B1, r4, .inl rfl, .inl rfl, hj, fun _ => rfl, fun _ => rfl, fun _ => rfl, fun _ => ⟨rfl, rfl⟩, hj2⟩
    · obtain ⟨x, hx⟩ := j2.2.2 A1 B1
      obtain ⟨y, hy⟩ := j3.2.2 A1 B1
      exact ⟨_, _, _, four, _, _, j, _, _, _, k4, r1, hx, hy, r4, .inl rfl, .inr rfl, hj, fun _ => rfl, fun _ => rfl, fun _ => rfl, (fun h => by cases h), hj2⟩
  · obtain ⟨x, hx⟩ := j1.2 A1
    obtain ⟨y, hy⟩ := j2.2.1 A1
    obtain ⟨z, hz⟩ := j3.2.1 A1
    obtain ⟨t, ht⟩ := j4.2 A1.next
    exact ⟨_, _, _, _, _, _, _, _, _, _, _, hx, hy, hz, ht, .inr rfl, .inr rfl, .inr rfl, (fun h => by cases h), (fun h => by cases h), (fun h => by cases h), (fun h => by cases h), fun h => by cases h⟩
end Go.Proofs.YtomcdhmcjndioaaGreatDoor
end
