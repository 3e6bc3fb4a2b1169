/- Layer 10, plain: tokens. Plain: units of UTF-8, decoded (the first part of UtfP, without the tables of folding). Layer 12, plain: parameters of a content type. Layers 5 and 32: lower case of a rune; the class of a rune. Layer 5, plain: units of UTF-8, decoded, folded. Layer 32: the class of a rune. Layer 32, plain: the words of a text, by the program's way and by the reference's. -/
import Derived.Lib.DecodeN
import Derived.Lib.RuneBytes
import Derived.IntWalk
import Derived.Test.YtomcdhmcjndioaaGreatDoorV01
section
namespace Go.Proofs.YtomcdhmcjndioaaGreatDoor
set_option linter.unusedVariables false

/-- A token: its kind, its bytes. -/
structure Tok where
  kind : Int
  text : List UInt8
deriving DecidableEq
def blankB (c : UInt8) : Bool := c == 9 || c == 10 || c == 13 || c == 32
def specials : List UInt8 := [40, 41, 60, 62, 91, 93, 58, 59, 64, 92, 44, 46, 34]
def atomB (c : UInt8) : Bool := decide (32 < c) && c != 127 && !specials.contains c
/-- How far the byte that closes lies (behind it), or nothing. -/
def closeP (close : UInt8) : Nat → List UInt8 → Option Nat
  | _, [] => none
  | d, [c] => if c = 92 then none else if c = close ∧ d = 1 then some 1 else none
  | d, c :: x :: r =>
    if c = 92 then (closeP close d r).map (· + 2)
    else if c = close then (if d = 1 then some 1 else (closeP close (d - 1) (x :: r)).map (· + 1))
    else if c = 40 ∧ close = 41 then (closeP close (d + 1) (x :: r)).map (· + 1)
    else (closeP close d (x :: r)).map (· + 1)
/-- The kind and the closing byte of a token that opens with c. -/
def opens (c : UInt8) : Option (Int × UInt8) := if c = 40 then some (3, 41) else if c = 34 then some (2, 34) else if c = 91 then some (5, 93) else none
/-- The first token's kind and length. -/
def frontP : List UInt8 → Int × Nat
  | [] => (7, 0)
  | c :: r =>
    if blankB c = true then (6, ((c :: r).takeWhile blankB).length)
    else match opens c with
      | some (k, z) => (match closeP z 1 r with
        | some n => (k, n + 1)
        | none => (7, r.length + 1))
      | none => if specials.contains c = true then (4, 1) else if atomB c = true then (1, ((c :: r).takeWhile atomB).length) else (7, 1)
theorem closeP_le (close : UInt8) : ∀ (d : Nat) (l : List UInt8) (n : Nat), closeP close d l = some n → 0 < n ∧ n ≤ l.length
  | d, [], n, h => by unfold closeP at h; cases h
  | d, [c], n, h => by
    unfold closeP at h
    split at h
    · cases h
    · split at h
      · injection h with h; subst h; simp
      · cases h
  | d, c :: x :: r, n, h => by
    unfold closeP at h
    split at h
    · obtain ⟨m, hm, rfl⟩ := Option.map_eq_some_iff.1 h
      have := closeP_le close d r m hm
      simp only [List.length_cons]; omega
    · split at h
      · split at h
        · injection h with h; subst h; simp
        · obtain ⟨m, hm, rfl⟩ := Option.map_eq_some_iff.1 h
          have := closeP_le close (d - 1) (x :: r) m hm
          simp only [List.length_cons] at this ⊢; omega
      · split at h
        · obtain ⟨m, hm, rfl⟩ := Option.map_eq_some_iff.1 h
          have := closeP_le close (d + 1) (x :: r) m hm
          simp only [List.length_cons] at this ⊢; omega
        · obtain ⟨m, hm, rfl⟩ := Option.map_eq_some_iff.1 h
          have := closeP_le close d (x :: r) m hm
          simp only [List.length_cons] at this ⊢; omega
theorem frontP_cons (c : UInt8) (r : List UInt8) : frontP (c :: r) = if blankB c = true then (6, ((c :: r).takeWhile blankB).length)
    else match opens c with
      | some (k, z) => (match closeP z 1 r with
        | some n => (k, n + 1)
        | none => (7, r.length + 1))
      | none => if specials.contains c = true then (4, 1) else if atomB c = true then (1, ((c :: r).takeWhile atomB).length) else (7, 1) := rfl
theorem frontP_len {l : List UInt8} (h : l ≠ []) : 0 < (frontP l).2 ∧ (frontP l).2 ≤ l.length := by
  cases l with
  | nil => exact absurd rfl h
  | cons c r =>
    rw [frontP_cons]
    split
    · rename_i hb
      refine ⟨?_, (List.takeWhile_prefix _).length_le⟩
      rw [List.takeWhile_cons, if_pos hb]; simp
    · split
      · split
        · rename_i n hn
          have := closeP_le _ _ _ _ hn
          simp only [List.length_cons]; omega
        · simp
      · split
        · simp
        · split
          · rename_i ha
            refine ⟨?_, (List.takeWhile_prefix _).length_le⟩
            rw [List.takeWhile_cons, if_pos ha]; simp
          · simp
/-- The tokens of a string. -/
def scanF : Nat → List UInt8 → List Tok
  | 0, _ => []
  | f + 1, l => if l = [] then [] else ⟨(frontP l).1, l.take (frontP l).2⟩ :: scanF f (l.drop (frontP l).2)
def scanP (l : List UInt8) : List Tok := scanF l.length l
theorem scanF_more : ∀ (f g : Nat) (l : List UInt8), l.length ≤ f → l.length ≤ g → scanF f l = scanF g l
  | 0, 0, l, _, _ => rfl
  | 0, g + 1, l, h, _ => by
    have : l = [] := List.eq_nil_of_length_eq_zero (by omega)
    unfold scanF; rw [if_pos this]
  | f + 1, 0, l, _, h => by
    have : l = [] := List.eq_nil_of_length_eq_zero (by omega)
    conv => lhs; unfold scanF
    rw [if_pos this]; rfl
  | f + 1, g + 1, l, hf, hg => by
    unfold scanF
    by_cases e : l = []
    · rw [if_pos e, if_pos e]
    · rw [if_neg e, if_neg e]
      have := (frontP_len e).1
      rw [scanF_more f g (l.drop (frontP l).2) (by rw [List.length_drop]; omega) (by rw [List.length_drop]; omega)]
theorem scanP_cons {l : List UInt8} (h : l ≠ []) : scanP l = ⟨(frontP l).1, l.take (frontP l).2⟩ :: scanP (l.drop (frontP l).2) := by
  have h1 := frontP_len h
  unfold scanP
  cases e : l.length with
  | zero => exact absurd (List.eq_nil_of_length_eq_zero e) h
  | succ n =>
    conv => lhs; unfold scanF
    rw [if_neg h, scanF_more n (l.drop (frontP l).2).length _ (by rw [List.length_drop]; omega) (Nat.le_refl _)]
theorem scanP_nil : scanP [] = [] := rfl
def keepB (t : Tok) : Bool := decide (t.kind ≠ 6) && decide (t.kind ≠ 3)
def bareP (l : List Tok) : List Tok := l.filter keepB
def joinP (l : List Tok) : List UInt8 := l.flatMap (·.text)
/-- The meaning of what stands between quotes. -/
def unescP : List UInt8 → List UInt8
  | [] => []
  | [c] => if c = 92 then [] else if c = 10 ∨ c = 13 then [] else [c]
  | c :: x :: r => if c = 92 then x :: unescP r else if c = 10 ∨ c = 13 then unescP (x :: r) else c :: unescP (x :: r)
def meanP (t : Tok) : List UInt8 := if (t.kind ≠ 2 ∧ t.kind ≠ 3) ∨ t.text.length < 2 then t.text else unescP ((t.text.drop 1).take (t.text.length - 2))
/-- Rows of tokens, parted at semicolons. -/
def semiB (t : Tok) : Bool := decide (t.kind = 4) && decide (t.text = [59])
def rowsP : List Tok → List (List Tok)
  | [] => [[]]
  | t :: r => if semiB t = true then [] :: rowsP r else match rowsP r with
    | [] => [[t]]
    | a :: b => (t :: a) :: b
theorem rowsP_ne : ∀ l, rowsP l ≠ []
  | [] => by simp [rowsP]
  | t :: r => by
    unfold rowsP
    split
    · simp
    · split <;> simp
end Go.Proofs.YtomcdhmcjndioaaGreatDoor
end
section
namespace Go.Proofs.YtomcdhmcjndioaaGreatDoor
set_option linter.unusedVariables false

def bt (l : List UInt8) (i : Nat) : Nat := (l.getD i 0).toNat
theorem bt_lt (l : List UInt8) (i : Nat) : bt l i < 256 := (l.getD i 0).toNat_lt
/-- The rune at the head of a list, and how many bytes it takes. -/
def uN (l : List UInt8) : Nat × Nat := Lib.decodeN l.length (bt l 0) (bt l 1) (bt l 2) (bt l 3)
theorem get_ba (l : List UInt8) (i : Nat) : (ba l).get! i = l.getD i 0 := by
  unfold ba ByteArray.get!
  simp only [getElem!_def]
  simp
  rfl
theorem uN_at (l : List UInt8) (pos : Nat) : Utf8.decode (ba l) pos = uN (l.drop pos) := by
  rw [Lib.decode_at, ba_size]
  unfold uN bt
  rw [get_ba, get_ba, get_ba, get_ba, List.length_drop]
  have h : ∀ i, (l.drop pos).getD i 0 = l.getD (pos + i) 0 := fun i => by simp [List.getD_eq_getElem?_getD, List.getElem?_drop]
  rw [h, h, h, h]
  rfl
set_option maxHeartbeats 4000000 in
/-- What a rune's width says. -/
theorem uN_cases (l : List UInt8) (h : l ≠ []) :
    ((uN l).2 = 1 ∧ (bt l 0 < 128 ∧ (uN l).1 = bt l 0 ∨ 128 ≤ bt l 0 ∧ (uN l).1 = 65533)) ∨
    ((uN l).2 = 2 ∧ 2 ≤ l.length ∧ bt l 0 / 32 = 6 ∧ bt l 1 / 64 = 2 ∧ (uN l).1 = bt l 0 % 32 * 64 + bt l 1 % 64 ∧ 128 ≤ (uN l).1) ∨
    ((uN l).2 = 3 ∧ 3 ≤ l.length ∧ bt l 0 / 16 = 14 ∧ bt l 1 / 64 = 2 ∧ bt l 2 / 64 = 2 ∧ (uN l).1 = bt l 0 % 16 * 4096 + bt l 1 % 64 * 64 + bt l 2 % 64 ∧ 2048 ≤ (uN l).1 ∧ ((uN l).1 < 55296 ∨ 57344 ≤ (uN l).1)) ∨
    ((uN l).2 = 4 ∧ 4 ≤ l.length ∧ bt l 0 / 8 = 30 ∧ bt l 1 / 64 = 2 ∧ bt l 2 / 64 = 2 ∧ bt l 3 / 64 = 2 ∧ (uN l).1 = bt l 0 % 8 * 262144 + bt l 1 % 64 * 4096 + bt l 2 % 64 * 64 + bt l 3 % 64 ∧ 65536 ≤ (uN l).1 ∧ (uN l).1 ≤ 1114111) := by
  unfold uN Lib.decodeN
  have b0 := bt_lt l 0
  generalize bt l 0 = x0 at *
  generalize bt l 1 = x1 at *
  generalize bt l 2 = x2 at *
  generalize bt l 3 = x3 at *
  generalize l.length = n at *
  repeat' split
  · exact .inl ⟨rfl, .inl ⟨by assumption, rfl⟩⟩
  · exact .inr (.inl ⟨rfl, by omega, by omega, by omega, rfl, by omega⟩)
  · exact .inl ⟨rfl, .inr ⟨by omega, rfl⟩⟩
  · exact .inr (.inr (.inl ⟨rfl, by omega, by omega, by omega, by omega, rfl, by omega, by omega⟩))
  · exact .inl ⟨rfl, .inr ⟨by omega, rfl⟩⟩
  · exact .inr (.inr (.inr ⟨rfl, by omega, by omega, by omega, by omega, by omega, rfl, by omega, by omega⟩))
  · exact .inl ⟨rfl, .inr ⟨by omega, rfl⟩⟩
  · exact .inl ⟨rfl, .inr ⟨by omega, rfl⟩⟩
theorem uN_pos (l : List UInt8) (h : l ≠ []) : 1 ≤ (uN l).2 ∧ (uN l).2 ≤ l.length ∧ (uN l).2 ≤ 4 ∧ (uN l).1 ≤ 1114111 := by
  have hl : 1 ≤ l.length := List.length_pos_iff.2 h
  have := bt_lt l 0; have := bt_lt l 1; have := bt_lt l 2
  rcases uN_cases l h with h1 | h1 | h1 | h1 <;> omega
end Go.Proofs.YtomcdhmcjndioaaGreatDoor
end
section
namespace Go.Proofs.YtomcdhmcjndioaaGreatDoor
set_option linter.unusedVariables false

/-- Lower case (ASCII). -/
def smallB (c : UInt8) : UInt8 := if 65 ≤ c ∧ c ≤ 90 then c + 32 else c
def smallP (l : List UInt8) : List UInt8 := l.map smallB
theorem smallP_len (l : List UInt8) : (smallP l).length = l.length := List.length_map _
def letterB (c : UInt8) : Bool := decide (97 ≤ c ∧ c ≤ 122) || decide (65 ≤ c ∧ c ≤ 90) || decide (48 ≤ c ∧ c ≤ 57)
def wordBytes : List UInt8 := [33, 35, 36, 38, 94, 95, 46, 43, 45]
def wordB (c : UInt8) : Bool := letterB c || wordBytes.contains c
def isWord (l : List UInt8) : Bool := l.all wordB && !l.isEmpty
/-- Parted at the first byte c. -/
def cutP (c : UInt8) : List UInt8 → Option (List UInt8 × List UInt8)
  | [] => none
  | x :: r => if x = c then some ([], r) else (cutP c r).map fun q => (x :: q.1, q.2)
theorem cutP_some {c : UInt8} : ∀ {l a b : List UInt8}, cutP c l = some (a, b) → l = a ++ c :: b ∧ c ∉ a
  | [], a, b, h => by cases h
  | x :: r, a, b, h => by
    unfold cutP at h
    split at h
    · rename_i e
      injection h with h
      injection h with h1 h2
      subst h1; subst h2; subst e
      exact ⟨rfl, by simp⟩
    · rename_i e
      obtain ⟨q, hq, h2⟩ := Option.map_eq_some_iff.1 h
      injection h2 with h3 h4
      subst h3; subst h4
      obtain ⟨h5, h6⟩ := cutP_some (a := q.1) (b := q.2) hq
      exact ⟨by rw [List.cons_append, ← h5], by simp only [List.mem_cons, not_or]; exact ⟨fun h => e h.symm, h6⟩⟩
theorem cutP_none {c : UInt8} : ∀ {l : List UInt8}, cutP c l = none ↔ c ∉ l
  | [] => by simp [cutP]
  | x :: r => by
    unfold cutP
    by_cases e : x = c
    · rw [if_pos e]; simp [e]
    · rw [if_neg e, Option.map_eq_none_iff, cutP_none, List.mem_cons, not_or]
      exact ⟨fun h => ⟨fun h2 => e h2.symm, h⟩, fun h => h.2⟩
/-- A decimal number in its canonical form. -/
def decV (l : List UInt8) : Nat := l.foldl (fun a c => a * 10 + (c.toNat - 48)) 0
def digitB (c : UInt8) : Bool := decide (48 ≤ c ∧ c ≤ 57)
def decP (l : List UInt8) (lo hi : Int) : Option Int :=
  let neg := l.head? = some 45
  let d := if neg then l.drop 1 else l
  if d.all digitB = true ∧ d ≠ [] ∧ ¬ (d.head? = some 48 ∧ l ≠ [48]) then
    let v : Int := if neg then -(decV d : Int) else (decV d : Int)
    if lo ≤ v ∧ v ≤ hi then some v else none
  else none
/-- A parameter's name, decoded: its name, its section, whether it is extended. -/
structure Spot3 where
  name : List UInt8
  section_ : Int
  wide : Bool
deriving DecidableEq
/-- Parted at the last byte c. -/
def lastP (c : UInt8) (l : List UInt8) : Option (List UInt8 × List UInt8) := (cutP c l.reverse).map fun q => (q.2.reverse, q.1.reverse)
def whereP (n : List UInt8) : Spot3 :=
  let w := decide (1 < n.length) && decide (n.getLast? = some 42)
  let m := if w = true then n.dropLast else n
  match lastP 42 m with
  | none => ⟨m, -1, w⟩
  | some q => match decP q.2 0 63 with
    | none => ⟨m, -1, w⟩
    | some v => ⟨q.1, v, w⟩
/-- The name and the value of a row. -/
def pairG : List UInt8 → List Tok → Option (List UInt8 × List UInt8)
  | _, [] => none
  | name, t :: r => match (if t.kind = 1 then cutP 61 t.text else none) with
    | none => pairG (name ++ t.text) r
    | some q => some (smallP (name ++ q.1), match q.2, r with
      | [], u :: _ => if u.kind = 2 then meanP u else joinP r
      | b, _ => b ++ joinP r)
def pairP (l : List Tok) : List UInt8 × List UInt8 := (pairG [] l).getD ([], [])
/-- Hexadecimal digits. -/
def hexV (c : UInt8) : Option Nat := if 48 ≤ c ∧ c ≤ 57 then some (c.toNat - 48) else if 97 ≤ c ∧ c ≤ 102 then some (c.toNat - 87) else if 65 ≤ c ∧ c ≤ 70 then some (c.toNat - 55) else none
def openP : List UInt8 → List UInt8
  | c :: x :: y :: r => if c = 37 then (match hexV x, hexV y with
      | some a, some b => UInt8.ofNat (a * 16 + b) :: openP r
      | _, _ => c :: openP (x :: y :: r)) else c :: openP (x :: y :: r)
  | l => l
/-- The charset's name and the rest. -/
def splitP (l : List UInt8) : List UInt8 × List UInt8 := match cutP 39 l with
  | none => ([], l)
  | some q => match cutP 39 q.2 with
    | none => ([], l)
    | some p => (q.1, p.2)
/-- Valid UTF-8 out of whatever bytes. -/
def repairF : Nat → List UInt8 → List UInt8
  | 0, _ => []
  | f + 1, l => if l = [] then [] else Lib.encodeRune (uN l).1 ++ repairF f (l.drop (uN l).2)
def repairP (l : List UInt8) : List UInt8 := repairF l.length l
def windowsT : List Nat := [8364, 129, 8218, 402, 8222, 8230, 8224, 8225, 710, 8240, 352, 8249, 338, 141, 381, 143, 144, 8216, 8217, 8220, 8221, 8226, 8211, 8212, 732, 8482, 353, 8250, 339, 157, 382, 376]
def signA (c : UInt8) : Nat := if c < 128 then c.toNat else 65533
def signL (c : UInt8) : Nat := c.toNat
def signW (c : UInt8) : Nat := if c < 128 ∨ 160 ≤ c then c.toNat else windowsT.getD (c.toNat - 128) 0
def bytesBy (sign : UInt8 → Nat) (l : List UInt8) : List UInt8 := l.flatMap fun c => Lib.encodeRune (sign c)
def setOf (name : List UInt8) : Nat :=
  if name = [117, 115, 45, 97, 115, 99, 105, 105] ∨ name = [97, 115, 99, 105, 105] then 1
  else if name = [117, 116, 102, 45, 56] ∨ name = [117, 116, 102, 56] then 2
  else if name = [105, 115, 111, 45, 56, 56, 53, 57, 45, 49] ∨ name = [108, 97, 116, 105, 110, 49] then 3
  else if name = [119, 105, 110, 100, 111, 119, 115, 45, 49, 50, 53, 50] ∨ name = [99, 112, 49, 50, 53, 50] then 4 else 0
def decodeSet (name s : List UInt8) : List UInt8 := match setOf (smallP name) with
  | 1 => bytesBy signA s
  | 2 => repairP s
  | 3 => bytesBy signL s
  | _ => bytesBy signW s
def meantP (name s : List UInt8) : List UInt8 := if name = [] then repairP s else decodeSet name s
/-- A parameter as it was written. -/
structure One1 where
  at_ : Spot3
  value : List UInt8
def onesP (l : List (List Tok)) : List One1 := (l.map pairP).filterMap fun q => if q.1 = [] then none else some ⟨whereP q.1, q.2⟩
def firstP (l : List One1) (name : List UInt8) (sec : Int) : Option One1 := l.find? fun x => decide (x.at_.name = name) && decide (x.at_.section_ = sec)
def restG (l : List One1) (name : List UInt8) : Nat → Int → List UInt8
  | 0, _ => []
  | f + 1, k => match firstP l name k with
    | none => []
    | some x => (if x.at_.wide = true then openP x.value else x.value) ++ restG l name f (k + 1)
def valueP (l : List One1) (name : List UInt8) : Option (List UInt8) := match firstP l name 0 with
  | none => match l.find? (fun x => decide (x.at_ = ⟨name, -1, true⟩)) with
    | some x => some (meantP (splitP x.value).1 (openP (splitP x.value).2))
    | none => (firstP l name (-1)).map (·.value)
  | some x =>
    if x.at_.wide = true then some (meantP (splitP x.value).1 (openP (splitP x.value).2 ++ restG l name 63 1)) else some (x.value ++ restG l name 63 1)
def namesP (l : List One1) : List (List UInt8) := l.foldl (fun a x => if x.at_.name ∈ a then a else a ++ [x.at_.name]) []
def paramsP (l : List (List Tok)) : List (List UInt8 × List UInt8) := (namesP (onesP l)).filterMap fun n => (valueP (onesP l) n).map fun v => (n, v)
/-- What a content type is. -/
structure Typ where
  kind : List UInt8
  sub : List UInt8
  params : List (List UInt8 × List UInt8)
def tokRows (s : List UInt8) : List (List Tok) := rowsP (bareP (scanP s))
def parseT (s : List UInt8) : Typ × Bool := match cutP 47 (joinP ((tokRows s).headD [])) with
  | none => (⟨[116, 101, 120, 116], [112, 108, 97, 105, 110], []⟩, false)
  | some q => if isWord q.1 = true ∧ isWord q.2 = true then (⟨smallP q.1, smallP q.2, paramsP ((tokRows s).drop 1)⟩, true) else (⟨[116, 101, 120, 116], [112, 108, 97, 105, 110], []⟩, false)
def dispT (s : List UInt8) : List UInt8 × List (List UInt8 × List UInt8) :=
  let f := smallP (joinP ((tokRows s).headD []))
  (if isWord f = true then f else [], paramsP ((tokRows s).drop 1))
def paramT (l : List (List UInt8 × List UInt8)) (name : List UInt8) : Option (List UInt8) := (l.find? fun p => decide (smallP p.1 = smallP name)).map (·.2)
/-- A value with its separator. -/
def plainBut : List UInt8 := [40, 41, 60, 62, 64, 44, 59, 58, 92, 34, 47, 91, 93, 63, 61]
def allB (low : UInt8) (but l : List UInt8) : Bool := l.all fun c => decide (low ≤ c ∧ c ≤ 126) && !but.contains c
def hexU (n : Nat) : UInt8 := UInt8.ofNat (if n < 10 then 48 + n else 55 + n)
def fmtV (v : List UInt8) : List UInt8 :=
  if v ≠ [] ∧ allB 33 plainBut v = true then 61 :: v
  else if allB 32 [] v = true then [61, 34] ++ (v.flatMap fun c => if c = 92 ∨ c = 34 then [92, c] else [c]) ++ [34]
  else [42, 61, 117, 116, 102, 45, 56, 39, 39] ++ v.flatMap fun c => if letterB c = true ∨ c = 45 ∨ c = 46 ∨ c = 95 ∨ c = 126 then [c] else [37, hexU (c.toNat / 16), hexU (c.toNat % 16)]
def lineP (first : List UInt8) (l : List (List UInt8 × List UInt8)) : List UInt8 := first ++ l.flatMap fun p => [59, 32] ++ p.1 ++ fmtV p.2
end Go.Proofs.YtomcdhmcjndioaaGreatDoor
end
section
namespace Go.Proofs.YtomcdhmcjndioaaGreatDoor
open Go.RowKit
set_option linter.unusedVariables false

/-- The lower case of a rune, as the reference says it. -/
def rlower (r : Int) : Int :=
  if (65 ≤ r ∧ r ≤ 90) ∨ ((192 ≤ r ∧ r ≤ 222) ∧ r ≠ 215) ∨ ((913 ≤ r ∧ r ≤ 939) ∧ r ≠ 930) ∨ (1040 ≤ r ∧ r ≤ 1071) then r + 32
  else if 1024 ≤ r ∧ r ≤ 1039 then r + 80
  else if (r % 2 = 0 ∧ ((256 ≤ r ∧ r ≤ 303) ∨ (306 ≤ r ∧ r ≤ 311) ∨ (330 ≤ r ∧ r ≤ 375))) ∨ (r % 2 ≠ 0 ∧ ((313 ≤ r ∧ r ≤ 328) ∨ (377 ≤ r ∧ r ≤ 382))) then r + 1
  else if r = 376 then 255
  else if r = 902 then 940
  else if 904 ≤ r ∧ r ≤ 906 then r + 37
  else if r = 908 then r + 64
  else if r = 910 ∨ r = 911 then r + 63
  else r
theorem rlower_low {r : Int} (h : 0 ≤ r) : 0 ≤ rlower r ∧ rlower r ≤ r + 80 := by
  unfold rlower
  repeat' split
  all_goals omega
set_option maxHeartbeats 4000000 in
theorem rlower_of {r : Int} {i : Nat} (hi : i ≤ 17) (h1 : ∀ k, k < i → fHi k < r) (h2 : ∀ k, i ≤ k → k < 17 → r ≤ fHi k) :
    rlower r = if i < 17 ∧ fLo i ≤ r then (if (r - fLo i) % fSt i = 0 then r + fMo i else r) else r := by
  have hb : ∀ k, k < 17 → fHi k = [90, 214, 222, 303, 311, 328, 375, 376, 382, 902, 906, 908, 911, 929, 939, 1039, 1071].getD k 0 := fun k _ => rfl
  have lo : 0 < i → fHi (i - 1) < r := fun h => h1 (i - 1) (by omega)
  have up : i < 17 → r ≤ fHi i := fun h => h2 i (Nat.le_refl _) h
  clear h1 h2 hb
  unfold rlower
  rcases (by omega : i = 0 ∨ i = 1 ∨ i = 2 ∨ i = 3 ∨ i = 4 ∨ i = 5 ∨ i = 6 ∨ i = 7 ∨ i = 8 ∨ i = 9 ∨ i = 10 ∨ i = 11 ∨ i = 12 ∨ i = 13 ∨ i = 14 ∨ i = 15 ∨ i = 16 ∨ i = 17) with rfl | rfl | rfl | rfl | rfl | rfl | rfl | rfl | rfl | rfl | rfl | rfl | rfl | rfl | rfl | rfl | rfl | rfl
  · have u : r ≤ (90 : Int) := up (by omega)
    show _ = if (0 : Nat) < 17 ∧ (65 : Int) ≤ r then (if (r - (65 : Int)) % (1 : Int) = 0 then r + (32 : Int) else r) else r
    clear lo up
    repeat' split
    all_goals omega
  · have l : (90 : Int) < r := lo (by omega)
    have u : r ≤ (214 : Int) := up (by omega)
    show _ = if (1 : Nat) < 17 ∧ (192 : Int) ≤ r then (if (r - (192 : Int)) % (1 : Int) = 0 then r + (32 : Int) else r) else r
    clear lo up
    repeat' split
    all_goals omega
  · have l : (214 : Int) < r := lo (by omega)
    have u : r ≤ (222 : Int) := up (by omega)
    show _ = if (2 : Nat) < 17 ∧ (216 : Int) ≤ r then (if (r - (216 : Int)) % (1 : Int) = 0 then r + (32 : Int) else r) else r
    clear lo up
    repeat' split
    all_goals omega
  · have l : (222 : Int) < r := lo (by omega)
    have u : r ≤ (303 : Int) := up (by omega)
    show _ = if (3 : Nat) < 17 ∧ (256 : Int) ≤ r then (if (r - (256 : Int)) % (2 : Int) = 0 then r + (1 : Int) else r) else r
    clear lo up
    repeat' split
    all_goals omega
  · have l : (303 : Int) < r := lo (by omega)
    have u : r ≤ (311 : Int) := up (by omega)
    show _ = if (4 : Nat) < 17 ∧ (306 : Int) ≤ r then (if (r - (306 : Int)) % (2 : Int) = 0 then r + (1 : Int) else r) else r
    clear lo up
    repeat' split
    all_goals omega
  · have l : (311 : Int) < r := lo (by omega)
    have u : r ≤ (328 : Int) := up (by omega)
    show _ = if (5 : Nat) < 17 ∧ (313 : Int) ≤ r then (if (r - (313 : Int)) % (2 : Int) = 0 then r + (1 : Int) else r) else r
    clear lo up
    repeat' split
    all_goals omega
  · have l : (328 : Int) < r := lo (by omega)
    have u : r ≤ (375 : Int) := up (by omega)
    show _ = if (6 : Nat) < 17 ∧ (330 : Int) ≤ r then (if (r - (330 : Int)) % (2 : Int) = 0 then r + (1 : Int) else r) else r
    clear lo up
    repeat' split
    all_goals omega
  · have l : (375 : Int) < r := lo (by omega)
    have u : r ≤ (376 : Int) := up (by omega)
    show _ = if (7 : Nat) < 17 ∧ (376 : Int) ≤ r then (if (r - (376 : Int)) % (1 : Int) = 0 then r + (-121 : Int) else r) else r
    clear lo up
    repeat' split
    all_goals omega
  · have l : (376 : Int) < r := lo (by omega)
    have u : r ≤ (382 : Int) := up (by omega)
    show _ = if (8 : Nat) < 17 ∧ (377 : Int) ≤ r then (if (r - (377 : Int)) % (2 : Int) = 0 then r + (1 : Int) else r) else r
    clear lo up
    repeat' split
    all_goals omega
  · have l : (382 : Int) < r := lo (by omega)
    have u : r ≤ (902 : Int) := up (by omega)
    show _ = if (9 : Nat) < 17 ∧ (902 : Int) ≤ r then (if (r - (902 : Int)) % (1 : Int) = 0 then r + (38 : Int) else r) else r
    clear lo up
    repeat' split
    all_goals omega
  · have l : (902 : Int) < r := lo (by omega)
    have u : r ≤ (906 : Int) := up (by omega)
    show _ = if (10 : Nat) < 17 ∧ (904 : Int) ≤ r then (if (r - (904 : Int)) % (1 : Int) = 0 then r + (37 : Int) else r) else r
    clear lo up
    repeat' split
    all_goals omega
  · have l : (906 : Int) < r := lo (by omega)
    have u : r ≤ (908 : Int) := up (by omega)
    show _ = if (11 : Nat) < 17 ∧ (908 : Int) ≤ r then (if (r - (908 : Int)) % (1 : Int) = 0 then r + (64 : Int) else r) else r
    clear lo up
    repeat' split
    all_goals omega
  · have l : (908 : Int) < r := lo (by omega)
    have u : r ≤ (911 : Int) := up (by omega)
    show _ = if (12 : Nat) < 17 ∧ (910 : Int) ≤ r then (if (r - (910 : Int)) % (1 : Int) = 0 then r + (63 : Int) else r) else r
    clear lo up
    repeat' split
    all_goals omega
  · have l : (911 : Int) < r := lo (by omega)
    have u : r ≤ (929 : Int) := up (by omega)
    show _ = if (13 : Nat) < 17 ∧ (913 : Int) ≤ r then (if (r - (913 : Int)) % (1 : Int) = 0 then r + (32 : Int) else r) else r
    clear lo up
    repeat' split
    all_goals omega
  · have l : (929 : Int) < r := lo (by omega)
    have u : r ≤ (939 : Int) := up (by omega)
    show _ = if (14 : Nat) < 17 ∧ (931 : Int) ≤ r then (if (r - (931 : Int)) % (1 : Int) = 0 then r + (32 : Int) else r) else r
    clear lo up
    repeat' split
    all_goals omega
  · have l : (939 : Int) < r := lo (by omega)
    have u : r ≤ (1039 : Int) := up (by omega)
    show _ = if (15 : Nat) < 17 ∧ (1024 : Int) ≤ r then (if (r - (1024 : Int)) % (1 : Int) = 0 then r + (80 : Int) else r) else r
    clear lo up
    repeat' split
    all_goals omega
  · have l : (1039 : Int) < r := lo (by omega)
    have u : r ≤ (1071 : Int) := up (by omega)
    show _ = if (16 : Nat) < 17 ∧ (1040 : Int) ≤ r then (if (r - (1040 : Int)) % (1 : Int) = 0 then r + (32 : Int) else r) else r
    clear lo up
    repeat' split
    all_goals omega
  · have l : (1071 : Int) < r := lo (by omega)
    rw [if_neg (by omega : ¬ (17 < 17 ∧ fLo 17 ≤ r))]
    clear lo up
    repeat' split
    all_goals omega
theorem fbounds : ∀ k, k < 17 → 0 ≤ fLo k ∧ fLo k ≤ 1040 ∧ 1 ≤ fSt k ∧ fSt k ≤ 2 ∧ -121 ≤ fMo k ∧ fMo k ≤ 80 ∧ 0 ≤ fLo k + fMo k := by decide
set_option maxRecDepth 100000 in
set_option maxHeartbeats 4000000 in
theorem lower_any (r : Int) (w : World) (hs : fSpans w w.heap.size) (h0 : 0 ≤ r) (h1 : r ≤ 1114111) : Calls Tryz.prog 80 #[.int .i32 r] w fun e w' => e = .returned (.int .i32 (rlower r)) ∧ Below w.heap.size w w' := by
  obtain ⟨hg, ad, c, hc, hcells⟩ := hs
  have HG := Lib.hid hg
  have HC := Lib.hid hc
  have HCL := Lib.hid hcells
  clear hcells hg
  go_enter Tryz.func80, Tryz.ntmps80
  go_wp2_with fail
  refine (fsearch ad c r w HCL.out).mono ?_
  rintro e w1 ⟨i, hi, hlt, hge, rfl, hb⟩
  have HR := Lib.hid (rlower_of hi hlt hge)
  have HB := Lib.hid hb
  clear hlt hge hb hc
  by_cases hf : i < 17 ∧ fLo i ≤ r
  · rw [decide_eq_true hf]
    have hbd := fbounds i hf.1
    obtain ⟨c0, c1, c2, c3⟩ := (HCL.out.below HB.out).2 i hf.1
    have hg1 := (HB.out.cell (p := ⟨3, 0, none⟩) HG.out).trans HC.out
    have HR2 := Lib.hid (show rlower r = if (r - fLo i) % fSt i = 0 then r + fMo i else r by rw [HR.out, if_pos hf])
    obtain ⟨lo, hlo⟩ : ∃ x, fLo i = x := ⟨_, rfl⟩
    obtain ⟨st, hst⟩ : ∃ x, fSt i = x := ⟨_, rfl⟩
    obtain ⟨mo, hmo⟩ : ∃ x, fMo i = x := ⟨_, rfl⟩
    rw [hlo] at c0 hbd hf HR2
    rw [hst] at c2 hbd HR2
    rw [hmo] at c3 hbd HR2
    have hi2 : (i : Int) < 17 := by omega
    have hi3 : i < 17 := hf.1
    have hle : lo ≤ r := hf.2
    obtain ⟨m, hm⟩ : ∃ m, (r - lo).tmod st = m := ⟨_, rfl⟩
    have hme : m = (r - lo) % st := by rw [← hm]; exact Int.tmod_eq_emod_of_nonneg (by omega)
    have hm0 : 0 ≤ m ∧ m ≤ 1 := by
      rw [hme]
      rcases (by omega : st = 1 ∨ st = 2) with h | h <;> rw [h] <;> omega
    have HME := Lib.hid hme
    have w1' : IntKind.i32.wrap (r - lo) = r - lo := IntWalk.i32_in _ (by omega)
    have w2' : IntKind.i32.wrap m = m := IntWalk.i32_in _ (by omega)
    have hst0 : ¬ st = 0 := by omega
    have hst1 : (st == 0) = false := by simpa using hst0
    have HBD := Lib.hid hbd
    clear hf hlo hst hmo hme
    by_cases hz : m = 0
    · have HF := Lib.hid (show rlower r = r + mo by rw [HR2.out, if_pos (by rw [← HME.out]; exact hz)])
      have hne : (m != 0) = false := by simpa using hz
      have HZ := Lib.hid hz
      clear hz
      go_wp2
      go_quiet (fail)
      clear w1' w2' hm
      go_wp2
      go_ret
      exact ⟨by rw [HF.out]; rfl, Below.drewN HB.out _⟩
    · have HF := Lib.hid (show rlower r = r by rw [HR2.out, if_neg (by rw [← HME.out]; exact hz)])
      have hne : (m != 0) = true := by simpa using hz
      have HZ := Lib.hid hz
      clear hz
      go_wp2
      go_quiet (fail)
      clear w1' w2' hm
      go_wp2
      go_ret
      exact ⟨by rw [HF.out]; rfl, Below.drewN HB.out _⟩
  · rw [decide_eq_false hf]
    have HF := Lib.hid (show rlower r = r by rw [HR.out, if_neg hf])
    clear hf
    go_wp2
    go_quiet (fail)
    go_wp2
    go_ret
    exact ⟨by rw [HF.out]; rfl, Below.drewN HB.out _⟩
end Go.Proofs.YtomcdhmcjndioaaGreatDoor
end
section
namespace Go.Proofs.YtomcdhmcjndioaaGreatDoor
set_option linter.unusedVariables false

set_option maxHeartbeats 4000000 in
/-- One unit, folded. -/
def foldU (l : List UInt8) : List UInt8 :=
  if (uN l).2 = 1 then (if bt l 0 < 128 then [UInt8.ofNat (rlower (bt l 0)).toNat] else l.take 1)
  else if (uN l).2 = 2 then [UInt8.ofNat (192 + (rlower (uN l).1).toNat / 64), UInt8.ofNat (128 + (rlower (uN l).1).toNat % 64)]
  else l.take (uN l).2
def foldL : Nat → List UInt8 → List UInt8
  | 0, _ => []
  | f + 1, l => if l = [] then [] else foldU l ++ foldL f (l.drop (uN l).2)
/-- A string in lower case. -/
def foldP (l : List UInt8) : List UInt8 := foldL l.length l
theorem foldL_fuel : ∀ (f g : Nat) (l : List UInt8), l.length ≤ f → l.length ≤ g → foldL f l = foldL g l
  | 0, 0, l, _, _ => rfl
  | 0, g + 1, l, h, _ => by
    have : l = [] := List.eq_nil_of_length_eq_zero (by omega)
    subst this; simp [foldL]
  | f + 1, 0, l, _, h => by
    have : l = [] := List.eq_nil_of_length_eq_zero (by omega)
    subst this; simp [foldL]
  | f + 1, g + 1, l, h1, h2 => by
    unfold foldL
    by_cases hl : l = []
    · rw [if_pos hl, if_pos hl]
    · rw [if_neg hl, if_neg hl]
      have := uN_pos l hl
      rw [foldL_fuel f g (l.drop (uN l).2) (by rw [List.length_drop]; omega) (by rw [List.length_drop]; omega)]
theorem foldP_nil : foldP [] = [] := rfl
theorem foldP_cons {l : List UInt8} (h : l ≠ []) : foldP l = foldU l ++ foldP (l.drop (uN l).2) := by
  have hp := uN_pos l h
  have hl : l.length = (l.length - 1) + 1 := by have := List.length_pos_iff.2 h; omega
  unfold foldP
  rw [hl]
  conv => lhs; unfold foldL
  rw [if_neg h, foldL_fuel (l.length - 1) (l.drop (uN l).2).length (l.drop (uN l).2) (by rw [List.length_drop]; omega) (Nat.le_refl _)]
theorem foldU_len (l : List UInt8) (h : l ≠ []) : (foldU l).length = (uN l).2 := by
  have hp := uN_pos l h
  unfold foldU
  split
  · rename_i h1
    split
    · simp [h1]
    · simp [h1]; omega
  · split
    · rename_i h2; simp [h2]
    · simp; omega
theorem foldP_len : ∀ (n : Nat) (l : List UInt8), l.length ≤ n → (foldP l).length = l.length
  | 0, l, h => by
    have : l = [] := List.eq_nil_of_length_eq_zero (by omega)
    subst this; rfl
  | n + 1, l, h => by
    by_cases hl : l = []
    · subst hl; rfl
    · have hp := uN_pos l hl
      rw [foldP_cons hl, List.length_append, foldU_len l hl, foldP_len n _ (by rw [List.length_drop]; omega), List.length_drop]
      omega
theorem rlower_128 {r : Int} (h0 : 0 ≤ r) (h1 : r ≤ 127) : 0 ≤ rlower r ∧ rlower r ≤ 127 := by
  unfold rlower; repeat' split
  all_goals omega
theorem rlower_two {r : Int} (h0 : 128 ≤ r) (h1 : r ≤ 2047) : 128 ≤ rlower r ∧ rlower r ≤ 2047 := by
  unfold rlower; repeat' split
  all_goals omega
theorem rlower_high {r : Int} (h0 : 1072 ≤ r) : rlower r = r := by
  unfold rlower; repeat' split
  all_goals omega
theorem take_bt {l : List UInt8} {n : Nat} (h : n ≤ l.length) : l.take n = (List.range n).map fun i => UInt8.ofNat (bt l i) := by
  apply List.ext_getElem
  · simp; omega
  · intro i h1 h2
    have hi : i < l.length := by simp at h1; omega
    simp [bt, hi]
theorem byte_of {x : Int} {n : Nat} (h : x = n) : x.toNat.toUInt8 = UInt8.ofNat n := by rw [h]; rfl
theorem uN_repl {l : List UInt8} (h : [239, 191, 189] <+: l) : uN l = (65533, 3) := by
  obtain ⟨t, rfl⟩ := h
  have h0 : bt ([239, 191, 189] ++ t) 0 = 239 := rfl
  have h1 : bt ([239, 191, 189] ++ t) 1 = 191 := rfl
  have h2 : bt ([239, 191, 189] ++ t) 2 = 189 := rfl
  unfold uN
  rw [h0, h1, h2]
  generalize bt ([239, 191, 189] ++ t) 3 = x
  have hn : ([239, 191, 189] ++ t : List UInt8).length = t.length + 3 := by simp
  rw [hn]
  unfold Lib.decodeN
  rw [if_neg (by omega), if_neg (by omega), if_pos (by omega), if_pos (by omega)]
/-- The program's step: what it writes of a rune. -/
theorem step_fold {l : List UInt8} (h : l ≠ []) : (if (uN l).1 = 65533 ∧ ¬ [239, 191, 189] <+: l then l.take 1 else Lib.encodeRune (rlower (uN l).1)) = foldU l := by
  have hp := uN_pos l h
  have b0 := bt_lt l 0; have b1 := bt_lt l 1; have b2 := bt_lt l 2; have b3 := bt_lt l 3
  have ht := take_bt (l := l) (n := (uN l).2) hp.2.1
  rcases uN_cases l h with ⟨hn, hr⟩ | ⟨hn, h1, h2, h3, hr, h4⟩ | ⟨hn, h1, h2, h3, h4, hr, h5, h6⟩ | ⟨hn, h1, h2, h3, h4, h5, hr, h6, h7⟩
  · unfold foldU
    rw [if_pos hn]
    rcases hr with ⟨hb, hr⟩ | ⟨hb, hr⟩
    · rw [if_neg (by rw [hr]; omega), if_pos hb, hr]
      have hl := rlower_128 (r := (bt l 0 : Int)) (by omega) (by omega)
      unfold Lib.encodeRune
      rw [Lib.encodeRuneZ_one hl.1 hl.2]
      rfl
    · rw [if_neg (by omega : ¬ bt l 0 < 128), if_pos]
      refine ⟨hr, fun hpre => ?_⟩
      rw [uN_repl hpre] at hn
      simp at hn
  · unfold foldU
    rw [if_neg (by omega), if_pos hn, if_neg (by omega)]
    have hl := rlower_two (r := ((uN l).1 : Int)) (by omega) (by omega)
    unfold Lib.encodeRune
    rw [Lib.encodeRuneZ_two hl.1 hl.2]
    simp only [List.map_cons, List.map_nil]
    rw [byte_of (n := 192 + (rlower (uN l).1).toNat / 64) (by omega), byte_of (n := 128 + (rlower (uN l).1).toNat % 64) (by omega)]
  · have hc : ¬ ((uN l).1 = 65533 ∧ ¬ [239, 191, 189] <+: l) := by
      intro hh
      have he := hh.1
      apply hh.2
      refine List.prefix_iff_eq_take.2 ?_
      show _ = l.take 3
      rw [hn] at ht
      rw [ht]
      show _ = [UInt8.ofNat (bt l 0), UInt8.ofNat (bt l 1), UInt8.ofNat (bt l 2)]
      rw [show bt l 0 = 239 by omega, show bt l 1 = 191 by omega, show bt l 2 = 189 by omega]
      rfl
    rw [if_neg hc]
    unfold foldU
    rw [if_neg (by omega), if_neg (by omega), ht, hn, rlower_high (by omega)]
    unfold Lib.encodeRune
    rw [Lib.encodeRuneZ_three (by omega)]
    simp only [List.map_cons, List.map_nil]
    rw [byte_of (n := bt l 0) (by omega), byte_of (n := bt l 1) (by omega), byte_of (n := bt l 2) (by omega)]
    rfl
  · unfold foldU
    rw [if_neg (by omega), if_neg (by omega), if_neg (by omega), ht, hn]
    rw [rlower_high (by omega)]
    unfold Lib.encodeRune
    rw [Lib.encodeRuneZ_four (by omega) (by omega)]
    simp only [List.map_cons, List.map_nil]
    rw [byte_of (n := bt l 0) (by omega), byte_of (n := bt l 1) (by omega), byte_of (n := bt l 2) (by omega), byte_of (n := bt l 3) (by omega)]
    rfl
end Go.Proofs.YtomcdhmcjndioaaGreatDoor
end
section
namespace Go.Proofs.YtomcdhmcjndioaaGreatDoor
open Go.RowKit
set_option linter.unusedVariables false

/-- The class of a rune, as the reference says it. -/
def kOwn (r : Int) : Bool := decide ((11904 ≤ r ∧ r ≤ 12255) ∨ (12353 ≤ r ∧ r ≤ 12543) ∨ (12549 ≤ r ∧ r ≤ 12591) ∨ (12593 ≤ r ∧ r ≤ 12686) ∨ (13312 ≤ r ∧ r ≤ 19903) ∨ (19968 ≤ r ∧ r ≤ 40959) ∨ (44032 ≤ r ∧ r ≤ 55203) ∨ (63744 ≤ r ∧ r ≤ 64255) ∨ (131072 ≤ r ∧ r ≤ 262143))
def kWord (r : Int) : Bool := decide ((48 ≤ r ∧ r ≤ 57) ∨ (65 ≤ r ∧ r ≤ 90) ∨ (97 ≤ r ∧ r ≤ 122))
def kNone (r : Int) : Bool := decide (r = 215 ∨ r = 247 ∨ (8192 ≤ r ∧ r ≤ 11263) ∨ (12288 ≤ r ∧ r ≤ 12351) ∨ (55296 ≤ r ∧ r ≤ 63743) ∨ (65024 ≤ r ∧ r ≤ 65039) ∨ (65072 ≤ r ∧ r ≤ 65135) ∨ (65280 ≤ r ∧ r ≤ 65295) ∨ (65520 ≤ r ∧ r ≤ 65535) ∨ (126976 ≤ r ∧ r ≤ 129791))
def kindP (r : Int) : Int := if kOwn r = true then 2 else if kWord r = true then 1 else if r < 192 ∨ 1114111 < r ∨ kNone r = true then 0 else 1
set_option maxHeartbeats 8000000 in
theorem kind_of {r : Int} {i : Nat} (hi : i ≤ 19) (h0 : 192 ≤ r) (hm : r ≤ 1114111) (h1 : ∀ k, k < i → kHi k < r) (h2 : ∀ k, i ≤ k → k < 19 → r ≤ kHi k) :
    kindP r = if i < 19 ∧ kLo i ≤ r then kKd i else 1 := by
  have lo : 0 < i → kHi (i - 1) < r := fun h => h1 (i - 1) (by omega)
  have up : i < 19 → r ≤ kHi i := fun h => h2 i (Nat.le_refl _) h
  clear h1 h2
  unfold kindP kOwn kWord kNone
  simp only [decide_eq_true_eq]
  rcases (by omega : i = 0 ∨ i = 1 ∨ i = 2 ∨ i = 3 ∨ i = 4 ∨ i = 5 ∨ i = 6 ∨ i = 7 ∨ i = 8 ∨ i = 9 ∨ i = 10 ∨ i = 11 ∨ i = 12 ∨ i = 13 ∨ i = 14 ∨ i = 15 ∨ i = 16 ∨ i = 17 ∨ i = 18 ∨ i = 19) with rfl | rfl | rfl | rfl | rfl | rfl | rfl | rfl | rfl | rfl | rfl | rfl | rfl | rfl | rfl | rfl | rfl | rfl | rfl | rfl
  · have u : r ≤ (215 : Int) := up (by omega)
    show _ = if (0 : Nat) < 19 ∧ (215 : Int) ≤ r then (0 : Int) else 1
    clear lo up
    repeat' split
    all_goals omega
  · have l : (215 : Int) < r := lo (by omega)
    have u : r ≤ (247 : Int) := up (by omega)
    show _ = if (1 : Nat) < 19 ∧ (247 : Int) ≤ r then (0 : Int) else 1
    clear lo up
    repeat' split
    all_goals omega
  · have l : (247 : Int) < r := lo (by omega)
    have u : r ≤ (11263 : Int) := up (by omega)
    show _ = if (2 : Nat) < 19 ∧ (8192 : Int) ≤ r then (0 : Int) else 1
    clear lo up
    repeat' split
    all_goals omega
  · have l : (11263 : Int) < r := lo (by omega)
    have u : r ≤ (12255 : Int) := up (by omega)
    show _ = if (3 : Nat) < 19 ∧ (11904 : Int) ≤ r then (2 : Int) else 1
    clear lo up
    repeat' split
    all_goals omega
  · have l : (12255 : Int) < r := lo (by omega)
    have u : r ≤ (12351 : Int) := up (by omega)
    show _ = if (4 : Nat) < 19 ∧ (12288 : Int) ≤ r then (0 : Int) else 1
    clear lo up
    repeat' split
    all_goals omega
  · have l : (12351 : Int) < r := lo (by omega)
    have u : r ≤ (12543 : Int) := up (by omega)
    show _ = if (5 : Nat) < 19 ∧ (12353 : Int) ≤ r then (2 : Int) else 1
    clear lo up
    repeat' split
    all_goals omega
  · have l : (12543 : Int) < r := lo (by omega)
    have u : r ≤ (12591 : Int) := up (by omega)
    show _ = if (6 : Nat) < 19 ∧ (12549 : Int) ≤ r then (2 : Int) else 1
    clear lo up
    repeat' split
    all_goals omega
  · have l : (12591 : Int) < r := lo (by omega)
    have u : r ≤ (12686 : Int) := up (by omega)
    show _ = if (7 : Nat) < 19 ∧ (12593 : Int) ≤ r then (2 : Int) else 1
    clear lo up
    repeat' split
    all_goals omega
  · have l : (12686 : Int) < r := lo (by omega)
    have u : r ≤ (19903 : Int) := up (by omega)
    show _ = if (8 : Nat) < 19 ∧ (13312 : Int) ≤ r then (2 : Int) else 1
    clear lo up
    repeat' split
    all_goals omega
  · have l : (19903 : Int) < r := lo (by omega)
    have u : r ≤ (40959 : Int) := up (by omega)
    show _ = if (9 : Nat) < 19 ∧ (19968 : Int) ≤ r then (2 : Int) else 1
    clear lo up
    repeat' split
    all_goals omega
  · have l : (40959 : Int) < r := lo (by omega)
    have u : r ≤ (55203 : Int) := up (by omega)
    show _ = if (10 : Nat) < 19 ∧ (44032 : Int) ≤ r then (2 : Int) else 1
    clear lo up
    repeat' split
    all_goals omega
  · have l : (55203 : Int) < r := lo (by omega)
    have u : r ≤ (63743 : Int) := up (by omega)
    show _ = if (11 : Nat) < 19 ∧ (55296 : Int) ≤ r then (0 : Int) else 1
    clear lo up
    repeat' split
    all_goals omega
  · have l : (63743 : Int) < r := lo (by omega)
    have u : r ≤ (64255 : Int) := up (by omega)
    show _ = if (12 : Nat) < 19 ∧ (63744 : Int) ≤ r then (2 : Int) else 1
    clear lo up
    repeat' split
    all_goals omega
  · have l : (64255 : Int) < r := lo (by omega)
    have u : r ≤ (65039 : Int) := up (by omega)
    show _ = if (13 : Nat) < 19 ∧ (65024 : Int) ≤ r then (0 : Int) else 1
    clear lo up
    repeat' split
    all_goals omega
  · have l : (65039 : Int) < r := lo (by omega)
    have u : r ≤ (65135 : Int) := up (by omega)
    show _ = if (14 : Nat) < 19 ∧ (65072 : Int) ≤ r then (0 : Int) else 1
    clear lo up
    repeat' split
    all_goals omega
  · have l : (65135 : Int) < r := lo (by omega)
    have u : r ≤ (65295 : Int) := up (by omega)
    show _ = if (15 : Nat) < 19 ∧ (65280 : Int) ≤ r then (0 : Int) else 1
    clear lo up
    repeat' split
    all_goals omega
  · have l : (65295 : Int) < r := lo (by omega)
    have u : r ≤ (65535 : Int) := up (by omega)
    show _ = if (16 : Nat) < 19 ∧ (65520 : Int) ≤ r then (0 : Int) else 1
    clear lo up
    repeat' split
    all_goals omega
  · have l : (65535 : Int) < r := lo (by omega)
    have u : r ≤ (129791 : Int) := up (by omega)
    show _ = if (17 : Nat) < 19 ∧ (126976 : Int) ≤ r then (0 : Int) else 1
    clear lo up
    repeat' split
    all_goals omega
  · have l : (129791 : Int) < r := lo (by omega)
    have u : r ≤ (262143 : Int) := up (by omega)
    show _ = if (18 : Nat) < 19 ∧ (131072 : Int) ≤ r then (2 : Int) else 1
    clear lo up
    repeat' split
    all_goals omega
  · have l : (262143 : Int) < r := lo (by omega)
    rw [if_neg (by omega : ¬ (19 < 19 ∧ kLo 19 ≤ r))]
    clear lo up
    repeat' split
    all_goals omega
theorem or32 : ∀ r : Nat, r < 192 → ((97 ≤ bits BinOp.or IntKind.i64 (r : Int) 32 ∧ bits BinOp.or IntKind.i64 (r : Int) 32 ≤ 122) ↔ (65 ≤ r ∧ r ≤ 90) ∨ (97 ≤ r ∧ r ≤ 122)) := by decide +kernel
theorem kind_low {r : Int} (h0 : 0 ≤ r) (h1 : r < 192) : kindP r = if kWord r = true then 1 else 0 := by
  unfold kindP
  rw [if_neg (by unfold kOwn; rw [decide_eq_true_eq]; omega)]
  by_cases h : kWord r = true
  · rw [if_pos h, if_pos h]
  · rw [if_neg h, if_neg h, if_pos (by omega)]
set_option maxRecDepth 100000 in
set_option maxHeartbeats 4000000 in
theorem kind_any (n : Nat) (w : World) (hs : kSpans w w.heap.size) (h1 : n ≤ 1114111) : Calls Tryz.prog 56 #[.int .i64 (n : Int)] w fun e w' => e = .returned (.int .i64 (kindP n)) ∧ Below w.heap.size w w' := by
  obtain ⟨hg, ad, c, hc, hcells⟩ := hs
  have HG := Lib.hid hg
  have HC := Lib.hid hc
  have HCL := Lib.hid hcells
  clear hcells hg
  by_cases hlow : n < 192
  · have hor := or32 n hlow
    have HK := Lib.hid (kind_low (r := (n : Int)) (by omega) (by omega))
    obtain ⟨m, hm⟩ : ∃ m, bits BinOp.or IntKind.i64 (n : Int) 32 = m := ⟨_, rfl⟩
    rw [hm] at hor
    have h2 : (n : Int) < 192 := by omega
    clear hc
    by_cases hd : 48 ≤ n ∧ n ≤ 57
    · have HF := Lib.hid (show kindP n = 1 by rw [HK.out, if_pos (by unfold kWord; rw [decide_eq_true_eq]; omega)])
      have h3 : (48 : Int) ≤ (n : Int) := by omega
      have h4 : (n : Int) ≤ 57 := by omega
      clear hd hor hlow
      go_enter Tryz.func56, Tryz.ntmps56
      go_wp2
      go_ret
      exact ⟨by rw [HF.out]; rfl, Below.refl _ _⟩
    · by_cases hw : (65 ≤ n ∧ n ≤ 90) ∨ (97 ≤ n ∧ n ≤ 122)
      · have HF := Lib.hid (show kindP n = 1 by rw [HK.out, if_pos (by unfold kWord; rw [decide_eq_true_eq]; omega)])
        obtain ⟨h5, h6⟩ := hor.2 hw
        have h3 : ¬ (n : Int) ≤ 57 := by omega
        have h4 : (48 : Int) ≤ (n : Int) := by omega
        have h7 : ¬ n ≤ 57 := by omega
        clear hd hor hlow hw
        go_enter Tryz.func56, Tryz.ntmps56
        go_wp2
        go_ret
        exact ⟨by rw [HF.out]; rfl, Below.refl _ _⟩
      · have HF := Lib.hid (show kindP n = 0 by rw [HK.out, if_neg (by unfold kWord; rw [decide_eq_true_eq]; omega)])
        have hno : ¬ (97 ≤ m ∧ m ≤ 122) := fun h => hw (hor.1 h)
        have hdi : ¬ ((48 : Int) ≤ (n : Int) ∧ (n : Int) ≤ 57) := by omega
        clear hd hor hlow hw
        by_cases ha : (48 : Int) ≤ (n : Int)
        all_goals
          have hb : (48 : Int) ≤ (n : Int) → ¬ (n : Int) ≤ 57 := fun h h' => hdi ⟨h, h'⟩
          first | (have hb2 := hb ha) | skip
          clear hb hdi
          by_cases h8 : 97 ≤ m
          all_goals
            first | (have h9 : ¬ m ≤ 122 := fun h => hno ⟨h8, h⟩) | skip
            clear hno
            go_enter Tryz.func56, Tryz.ntmps56
            go_wp2
            go_ret
            exact ⟨by rw [HF.out]; rfl, Below.refl _ _⟩
  · have h2 : ¬ (n : Int) < 192 := by omega
    have h3 : (n : Int) ≤ 1114111 := by omega
    go_enter Tryz.func56, Tryz.ntmps56
    go_wp2_with fail
    refine (ksearch ad c (n : Int) w HCL.out).mono ?_
    rintro e w1 ⟨i, hi, hlt, hge, rfl, hb⟩
    have HR := Lib.hid (kind_of hi (by omega) (by omega) hlt hge)
    have HB := Lib.hid hb
    clear hlt hge hb hc
    by_cases hf : i < 19 ∧ kLo i ≤ (n : Int)
    · rw [decide_eq_true hf]
      obtain ⟨c0, c1, c2⟩ := (HCL.out.below HB.out).2 i hf.1
      have hg1 := (HB.out.cell (p := ⟨1, 0, none⟩) HG.out).trans HC.out
      have HF := Lib.hid (show kindP n = kKd i by rw [HR.out, if_pos hf])
      obtain ⟨kd, hkd⟩ : ∃ x, kKd i = x := ⟨_, rfl⟩
      rw [hkd] at c2 HF
      have hi2 : (i : Int) < 19 := by omega
      have hi3 : i < 19 := hf.1
      clear hf hkd
      go_wp2
      go_ret
      exact ⟨by rw [HF.out]; rfl, HB.out⟩
    · rw [decide_eq_false hf]
      have HF := Lib.hid (show kindP n = 1 by rw [HR.out, if_neg hf])
      clear hf
      go_wp2
      go_ret
      exact ⟨by rw [HF.out]; rfl, HB.out⟩
end Go.Proofs.YtomcdhmcjndioaaGreatDoor
end
section
namespace Go.Proofs.YtomcdhmcjndioaaGreatDoor
set_option linter.unusedVariables false

def wEnd (f : Int) (t : Nat) (ws : List (Nat × Nat)) : List (Nat × Nat) := if 0 ≤ f then ws ++ [(f.toNat, t)] else ws
/-- The class of a unit. -/
def wKind (l : List UInt8) : Int := if (uN l).1 = 65533 then 0 else kindP (uN l).1
def wStep (l : List UInt8) (a : Nat) (f : Int) (ws : List (Nat × Nat)) : Int × List (Nat × Nat) :=
  if wKind l = 0 then (-1, wEnd f a ws)
  else if wKind l = 2 then (-1, wEnd f a ws ++ [(a, a + (uN l).2)])
  else if 0 ≤ f ∧ 40 < (a : Int) + (uN l).2 - f then (a, wEnd f a ws)
  else if f < 0 then (a, ws) else (f, ws)
def wRun : Nat → List UInt8 → Nat → Int → List (Nat × Nat) → List (Nat × Nat)
  | 0, _, a, f, ws => wEnd f a ws
  | k + 1, l, a, f, ws => if l = [] then wEnd f a ws else wRun k (l.drop (uN l).2) (a + (uN l).2) (wStep l a f ws).1 (wStep l a f ws).2
/-- Where the words of a text lie. -/
def rangesP (s : List UInt8) : List (Nat × Nat) := wRun s.length s 0 (-1) []
def wordAt (s : List UInt8) (r : Nat × Nat) : List UInt8 := foldP ((s.take r.2).drop r.1)
/-- The words of a text. -/
def listP (s : List UInt8) : List (List UInt8) := (rangesP s).map (wordAt s)
theorem wKind_cases (l : List UInt8) : wKind l = 0 ∨ wKind l = 1 ∨ wKind l = 2 := by
  unfold wKind kindP
  repeat' split
  all_goals simp
theorem wRun_end {k a : Nat} {f : Int} {ws : List (Nat × Nat)} : wRun k [] a f ws = wEnd f a ws := by
  cases k with
  | zero => rfl
  | succ k => unfold wRun; rw [if_pos rfl]
theorem wRun_fuel : ∀ (k j : Nat) (l : List UInt8) (a : Nat) (f : Int) (ws : List (Nat × Nat)), l.length ≤ k → l.length ≤ j → wRun k l a f ws = wRun j l a f ws
  | 0, j, l, a, f, ws, h, _ => by
    have : l = [] := List.eq_nil_of_length_eq_zero (by omega)
    subst this; rw [wRun_end, wRun_end]
  | k + 1, 0, l, a, f, ws, _, h => by
    have : l = [] := List.eq_nil_of_length_eq_zero (by omega)
    subst this; rw [wRun_end, wRun_end]
  | k + 1, j + 1, l, a, f, ws, h1, h2 => by
    unfold wRun
    by_cases hl : l = []
    · rw [if_pos hl, if_pos hl]
    · have hp := uN_pos l hl
      rw [if_neg hl, if_neg hl]
      exact wRun_fuel k j _ _ _ _ (by rw [List.length_drop]; omega) (by rw [List.length_drop]; omega)
/-- The run from a place on. -/
def wFrom (l : List UInt8) (a : Nat) (f : Int) (ws : List (Nat × Nat)) : List (Nat × Nat) := wRun l.length l a f ws
theorem wFrom_nil {a : Nat} {f : Int} {ws : List (Nat × Nat)} : wFrom [] a f ws = wEnd f a ws := wRun_end
theorem wFrom_cons {l : List UInt8} (h : l ≠ []) (a : Nat) (f : Int) (ws : List (Nat × Nat)) : wFrom l a f ws = wFrom (l.drop (uN l).2) (a + (uN l).2) (wStep l a f ws).1 (wStep l a f ws).2 := by
  have hp := uN_pos l h
  have hl : l.length = (l.length - 1) + 1 := by have := List.length_pos_iff.2 h; omega
  unfold wFrom
  rw [hl]
  conv => lhs; unfold wRun
  rw [if_neg h]
  exact wRun_fuel _ _ _ _ _ _ (by rw [List.length_drop]; omega) (Nat.le_refl _)

/-- The reference's step: the ranges so far, and whether the last one is open. -/
def rStep (l : List UInt8) (a : Nat) (out : List (Nat × Nat)) (opn : Bool) : List (Nat × Nat) × Bool :=
  (if wKind l = 1 ∧ opn = true ∧ (out.getLastD (0, 0)).2 - (out.getLastD (0, 0)).1 + (uN l).2 ≤ 40 then out.dropLast ++ [((out.getLastD (0, 0)).1, (out.getLastD (0, 0)).2 + (uN l).2)]
   else if 0 < wKind l then out ++ [(a, a + (uN l).2)] else out, decide (wKind l = 1))
def rRun : Nat → List UInt8 → Nat → List (Nat × Nat) → Bool → List (Nat × Nat)
  | 0, _, _, out, _ => out
  | k + 1, l, a, out, opn => if l = [] then out else rRun k (l.drop (uN l).2) (a + (uN l).2) (rStep l a out opn).1 (rStep l a out opn).2
/-- Both ways meet. -/
theorem runs_meet : ∀ (k : Nat) (l : List UInt8) (a : Nat) (f : Int) (ws out : List (Nat × Nat)) (opn : Bool), l.length ≤ k →
    (opn = true ∧ 0 ≤ f ∧ f < a ∧ out = ws ++ [(f.toNat, a)] ∨ opn = false ∧ f = -1 ∧ out = ws) → rRun k l a out opn = wRun k l a f ws
  | 0, l, a, f, ws, out, opn, hk, h => by
    show out = wEnd f a ws
    rcases h with ⟨_, h0, _, he⟩ | ⟨_, h0, he⟩
    · rw [he]; unfold wEnd; rw [if_pos h0]
    · rw [he, h0]; rfl
  | k + 1, l, a, f, ws, out, opn, hk, h => by
    unfold rRun wRun
    by_cases hl : l = []
    · rw [if_pos hl, if_pos hl]
      rcases h with ⟨_, h0, _, he⟩ | ⟨_, h0, he⟩
      · rw [he]; unfold wEnd; rw [if_pos h0]
      · rw [he, h0]; rfl
    · rw [if_neg hl, if_neg hl]
      have hp := uN_pos l hl
      refine runs_meet k _ _ _ _ _ _ (by rw [List.length_drop]; omega) ?_
      rcases wKind_cases l with h1 | h1 | h1
      · right
        unfold rStep wStep
        simp only [h1]
        refine ⟨rfl, rfl, ?_⟩
        rcases h with ⟨_, h0, _, he⟩ | ⟨_, h0, he⟩
        · rw [he]; simp [wEnd, h0]
        · rw [he, h0]; simp [wEnd]
      · left
        rcases h with ⟨ho, h0, hfa, he⟩ | ⟨ho, h0, he⟩
        · subst he
          by_cases hlong : 40 < (a : Int) + (uN l).2 - f
          · have hw : wStep l a f ws = (↑a, wEnd f a ws) := by
              unfold wStep
              rw [if_neg (by rw [h1]; decide), if_neg (by rw [h1]; decide), if_pos ⟨h0, hlong⟩]
            have hr : rStep l a (ws ++ [(f.toNat, a)]) opn = (ws ++ [(f.toNat, a)] ++ [(a, a + (uN l).2)], true) := by
              unfold rStep
              rw [List.getLastD_concat, if_neg (by rintro ⟨_, _, h⟩; simp only at h; omega), if_pos (by rw [h1]; decide)]
              simp [h1]
            rw [hw, hr]
            refine ⟨rfl, by simp only; omega, by simp only; omega, ?_⟩
            simp [wEnd, h0]
          · have hw : wStep l a f ws = (f, ws) := by
              unfold wStep
              rw [if_neg (by rw [h1]; decide), if_neg (by rw [h1]; decide), if_neg (by rintro ⟨_, h⟩; exact hlong h), if_neg (by omega)]
            have hr : rStep l a (ws ++ [(f.toNat, a)]) opn = (ws ++ [(f.toNat, a + (uN l).2)], true) := by
              unfold rStep
              rw [List.getLastD_concat, if_pos ⟨h1, ho, by simp only; omega⟩]
              simp [h1]
            rw [hw, hr]
            exact ⟨rfl, h0, by simp only; omega, rfl⟩
        · subst he
          subst h0
          have hw : wStep l a (-1) out = (↑a, out) := by
            unfold wStep
            rw [if_neg (by rw [h1]; decide), if_neg (by rw [h1]; decide), if_neg (by rintro ⟨h, _⟩; omega), if_pos (by omega)]
          have hr : rStep l a out opn = (out ++ [(a, a + (uN l).2)], true) := by
            unfold rStep
            rw [if_neg (by rintro ⟨_, h, _⟩; rw [ho] at h; cases h), if_pos (by rw [h1]; decide)]
            simp [h1]
          rw [hw, hr]
          exact ⟨rfl, by simp only; omega, by simp only; omega, by simp⟩
      · right
        unfold rStep wStep
        simp only [h1]
        refine ⟨rfl, rfl, ?_⟩
        rcases h with ⟨_, h0, _, he⟩ | ⟨_, h0, he⟩
        · rw [he]; simp [wEnd, h0]
        · rw [he, h0]; simp [wEnd]
end Go.Proofs.YtomcdhmcjndioaaGreatDoor
end
