/- Layer 12, plain: parameters of a content type. Layer 10: the contracts of blank, atom and row (printed by gen_toka. Layer 10, plain: the byte that closes, found step by step. Rows of pouch/api. Layer 10, plain: the meaning of a quoted token, byte by byte with a flag. The library: the build of a Replacer whose four strings escape a quoted string. A region that draws its order, within a round: as without. -/
import Derived.Lib.IndexLaws
import Derived.Deep.WholeRow
import Derived.OrdersIn
import Derived.RangeFuncCalls
import Derived.TacticsIn
import Derived.Test.YthidbmeaccpjdaaGreatDoorM01
import Derived.Test.YthidbmeaccpjdaaGreatDoorShelfP
import Derived.Test.YthidbmeaccpjdaaGreatDoorM02
namespace Go.Proofs.YthidbmeaccpjdaaGreatDoor
open Go.RowKit
set_option linter.unusedVariables false
set_option maxHeartbeats 4000000
def smallB (c : UInt8) : UInt8 := if 65 ≤ c ∧ c ≤ 90 then c + 32 else c
def smallP (l : List UInt8) : List UInt8 := l.map smallB
theorem smallP_len (l : List UInt8) : (smallP l).length = l.length := List.length_map _
def letterB (c : UInt8) : Bool := decide (97 ≤ c ∧ c ≤ 122) || decide (65 ≤ c ∧ c ≤ 90) || decide (48 ≤ c ∧ c ≤ 57)
def wordBytes : List UInt8 := [33, 35, 36, 38, 94, 95, 46, 43, 45]
def wordB (c : UInt8) : Bool := letterB c || wordBytes.contains c
def isWord (l : List UInt8) : Bool := l.all wordB && !l.isEmpty
def cutP (c : UInt8) : List UInt8 → Option (List UInt8 × List UInt8)
 | [] => none
 | x :: r => if x = c then some ([], r) else (cutP c r).map fun q => (x :: q.1, q.2)
theorem cutP_some {c : UInt8} : ∀ {l a b : List UInt8}, cutP c l = some (a, b) → l = a ++ c :: b ∧ c ∉ a
 | [], a, b, h => by cases h
 | x :: r, a, b, h => by
  unfold cutP at h
  split at h
  ·rename_i e
   injection h with h
   injection h with h1 h2
   subst h1; subst h2; subst e
   exact ⟨rfl, by simp⟩
  ·rename_i e
   obtain ⟨q, hq, h2⟩ := Option.map_eq_some_iff.1 h
   injection h2 with h3 h4
   subst h3; subst h4
   obtain ⟨h5, h6⟩ := cutP_some (a := q.1) (b := q.2) hq
   exact ⟨by rw [List.cons_append, ← h5], by simp only [List.mem_cons, not_or]; exact ⟨fun h => e h.symm, h6⟩⟩
theorem cutP_none {c : UInt8} : ∀ {l : List UInt8}, cutP c l = none ↔ c ∉ l
 | [] => by simp [cutP]
 | x :: r => by
  unfold cutP
  by_cases e : x = c
  ·rw [if_pos e]; simp [e]
  ·rw [if_neg e, Option.map_eq_none_iff, cutP_none, List.mem_cons, not_or]
   exact ⟨fun h => ⟨fun h2 => e h2.symm, h⟩, fun h => h.2⟩
def decV (l : List UInt8) : Nat := l.foldl (fun a c => a * 10 + (c.toNat - 48)) 0
def digitB (c : UInt8) : Bool := decide (48 ≤ c ∧ c ≤ 57)
def decP (l : List UInt8) (lo hi : Int) : Option Int :=
 let neg := l.head? = some 45
 let d := if neg then l.drop 1 else l
 if d.all digitB = true ∧ d ≠ [] ∧ ¬ (d.head? = some 48 ∧ l ≠ [48]) then
  let v : Int := if neg then -(decV d : Int) else (decV d : Int)
  if lo ≤ v ∧ v ≤ hi then some v else none
 else none
structure Spot3 where
 name : List UInt8
 section_ : Int
 wide : Bool
deriving DecidableEq
def lastP (c : UInt8) (l : List UInt8) : Option (List UInt8 × List UInt8) := (cutP c l.reverse).map fun q => (q.2.reverse, q.1.reverse)
def whereP (n : List UInt8) : Spot3 :=
 let w := decide (1 < n.length) && decide (n.getLast? = some 42)
 let m := if w = true then n.dropLast else n
 match lastP 42 m with
 | none => ⟨m, -1, w⟩
 | some q => match decP q.2 0 63 with
  | none => ⟨m, -1, w⟩
  | some v => ⟨q.1, v, w⟩
def pairG : List UInt8 → List Tok → Option (List UInt8 × List UInt8)
 | _, [] => none
 | name, t :: r => match (if t.kind = 1 then cutP 61 t.text else none) with
  | none => pairG (name ++ t.text) r
  | some q => some (smallP (name ++ q.1), match q.2, r with
   | [], u :: _ => if u.kind = 2 then meanP u else joinP r
   | b, _ => b ++ joinP r)
def pairP (l : List Tok) : List UInt8 × List UInt8 := (pairG [] l).getD ([], [])
def hexV (c : UInt8) : Option Nat := if 48 ≤ c ∧ c ≤ 57 then some (c.toNat - 48) else if 97 ≤ c ∧ c ≤ 102 then some (c.toNat - 87) else if 65 ≤ c ∧ c ≤ 70 then some (c.toNat - 55) else none
def openP : List UInt8 → List UInt8
 | c :: x :: y :: r => if c = 37 then (match hexV x, hexV y with
   | some a, some b => UInt8.ofNat (a * 16 + b) :: openP r
   | _, _ => c :: openP (x :: y :: r)) else c :: openP (x :: y :: r)
 | l => l
def splitP (l : List UInt8) : List UInt8 × List UInt8 := match cutP 39 l with
 | none => ([], l)
 | some q => match cutP 39 q.2 with
  | none => ([], l)
  | some p => (q.1, p.2)
def repairF : Nat → List UInt8 → List UInt8
 | 0, _ => []
 | f + 1, l => if l = [] then [] else Lib.encodeRune (uN l).1 ++ repairF f (l.drop (uN l).2)
def repairP (l : List UInt8) : List UInt8 := repairF l.length l
def windowsT : List Nat := [8364, 129, 8218, 402, 8222, 8230, 8224, 8225, 710, 8240, 352, 8249, 338, 141, 381, 143, 144, 8216, 8217, 8220, 8221, 8226, 8211, 8212, 732, 8482, 353, 8250, 339, 157, 382, 376]
def signA (c : UInt8) : Nat := if c < 128 then c.toNat else 65533
def signL (c : UInt8) : Nat := c.toNat
def signW (c : UInt8) : Nat := if c < 128 ∨ 160 ≤ c then c.toNat else windowsT.getD (c.toNat - 128) 0
def bytesBy (sign : UInt8 → Nat) (l : List UInt8) : List UInt8 := l.flatMap fun c => Lib.encodeRune (sign c)
def setOf (name : List UInt8) : Nat :=
 if name = [117, 115, 45, 97, 115, 99, 105, 105] ∨ name = [97, 115, 99, 105, 105] then 1
 else if name = [117, 116, 102, 45, 56] ∨ name = [117, 116, 102, 56] then 2
 else if name = [105, 115, 111, 45, 56, 56, 53, 57, 45, 49] ∨ name = [108, 97, 116, 105, 110, 49] then 3
 else if name = [119, 105, 110, 100, 111, 119, 115, 45, 49, 50, 53, 50] ∨ name = [99, 112, 49, 50, 53, 50] then 4 else 0
def decodeSet (name s : List UInt8) : List UInt8 := match setOf (smallP name) with
 | 1 => bytesBy signA s
 | 2 => repairP s
 | 3 => bytesBy signL s
 | _ => bytesBy signW s
def meantP (name s : List UInt8) : List UInt8 := if name = [] then repairP s else decodeSet name s
structure One1 where
 at_ : Spot3
 value : List UInt8
def onesP (l : List (List Tok)) : List One1 := (l.map pairP).filterMap fun q => if q.1 = [] then none else some ⟨whereP q.1, q.2⟩
def firstP (l : List One1) (name : List UInt8) (sec : Int) : Option One1 := l.find? fun x => decide (x.at_.name = name) && decide (x.at_.section_ = sec)
def restG (l : List One1) (name : List UInt8) : Nat → Int → List UInt8
 | 0, _ => []
 | f + 1, k => match firstP l name k with
  | none => []
  | some x => (if x.at_.wide = true then openP x.value else x.value) ++ restG l name f (k + 1)
def valueP (l : List One1) (name : List UInt8) : Option (List UInt8) := match firstP l name 0 with
 | none => match l.find? (fun x => decide (x.at_ = ⟨name, -1, true⟩)) with
  | some x => some (meantP (splitP x.value).1 (openP (splitP x.value).2))
  | none => (firstP l name (-1)).map (·.value)
 | some x =>
  if x.at_.wide = true then some (meantP (splitP x.value).1 (openP (splitP x.value).2 ++ restG l name 63 1)) else some (x.value ++ restG l name 63 1)
def namesP (l : List One1) : List (List UInt8) := l.foldl (fun a x => if x.at_.name ∈ a then a else a ++ [x.at_.name]) []
def paramsP (l : List (List Tok)) : List (List UInt8 × List UInt8) := (namesP (onesP l)).filterMap fun n => (valueP (onesP l) n).map fun v => (n, v)
structure Typ where
 kind : List UInt8
 sub : List UInt8
 params : List (List UInt8 × List UInt8)
def tokRows (s : List UInt8) : List (List Tok) := rowsP (bareP (scanP s))
def parseT (s : List UInt8) : Typ × Bool := match cutP 47 (joinP ((tokRows s).headD [])) with
 | none => (⟨[116, 101, 120, 116], [112, 108, 97, 105, 110], []⟩, false)
 | some q => if isWord q.1 = true ∧ isWord q.2 = true then (⟨smallP q.1, smallP q.2, paramsP ((tokRows s).drop 1)⟩, true) else (⟨[116, 101, 120, 116], [112, 108, 97, 105, 110], []⟩, false)
def dispT (s : List UInt8) : List UInt8 × List (List UInt8 × List UInt8) :=
 let f := smallP (joinP ((tokRows s).headD []))
 (if isWord f = true then f else [], paramsP ((tokRows s).drop 1))
def paramT (l : List (List UInt8 × List UInt8)) (name : List UInt8) : Option (List UInt8) := (l.find? fun p => decide (smallP p.1 = smallP name)).map (·.2)
def plainBut : List UInt8 := [40, 41, 60, 62, 64, 44, 59, 58, 92, 34, 47, 91, 93, 63, 61]
def allB (low : UInt8) (but l : List UInt8) : Bool := l.all fun c => decide (low ≤ c ∧ c ≤ 126) && !but.contains c
def hexU (n : Nat) : UInt8 := UInt8.ofNat (if n < 10 then 48 + n else 55 + n)
theorem u8_beq (c d : UInt8) : (c == d) = decide ((c.toNat : Int) = (d.toNat : Int)) := by
 rw [Bool.eq_iff_iff, beq_iff_eq, decide_eq_true_iff]
 exact ⟨fun h => by rw [h], fun h => UInt8.toNat_inj.1 (by omega)⟩
theorem blankB_int (c : UInt8) : blankB c = (decide ((c.toNat : Int) = 9) || decide ((c.toNat : Int) = 10) || decide ((c.toNat : Int) = 13) || decide ((c.toNat : Int) = 32)) := by
 unfold blankB
 rw [u8_beq, u8_beq, u8_beq, u8_beq]
 rfl
theorem tblank_any (c : UInt8) (w : World) : Calls Tryz.prog 202 #[.int .u8 (c.toNat : Int)] w fun e w' => e = .returned (.bool (blankB c)) ∧ w' = w := by
 have HF := Lib.hid (blankB_int c)
 obtain ⟨x, hx⟩ : ∃ x : Int, (c.toNat : Int) = x := ⟨_, rfl⟩
 rw [hx] at HF ⊢
 clear hx
 by_cases e9 : x = 9
 ·have g9 : (x == 9) = true := by simpa using e9
  have HG := Lib.hid (show blankB c = true by rw [HF.out]; simp [*])
  clear HF e9
  go_enter Tryz.func202, Tryz.ntmps202
  go_wp2
  go_ret
  exact ⟨by rw [HG.out]; rfl, rfl⟩
 have g9 : (x == 9) = false := by simpa using e9
 by_cases e10 : x = 10
 ·have g10 : (x == 10) = true := by simpa using e10
  have HG := Lib.hid (show blankB c = true by rw [HF.out]; simp [*])
  clear HF e9 e10
  go_enter Tryz.func202, Tryz.ntmps202
  go_wp2
  go_ret
  exact ⟨by rw [HG.out]; rfl, rfl⟩
 have g10 : (x == 10) = false := by simpa using e10
 by_cases e13 : x = 13
 ·have g13 : (x == 13) = true := by simpa using e13
  have HG := Lib.hid (show blankB c = true by rw [HF.out]; simp [*])
  clear HF e9 e10 e13
  go_enter Tryz.func202, Tryz.ntmps202
  go_wp2
  go_ret
  exact ⟨by rw [HG.out]; rfl, rfl⟩
 have g13 : (x == 13) = false := by simpa using e13
 by_cases e32 : x = 32
 ·have g32 : (x == 32) = true := by simpa using e32
  have HG := Lib.hid (show blankB c = true by rw [HF.out]; simp [*])
  clear HF e9 e10 e13 e32
  go_enter Tryz.func202, Tryz.ntmps202
  go_wp2
  go_ret
  exact ⟨by rw [HG.out]; rfl, rfl⟩
 have g32 : (x == 32) = false := by simpa using e32
 have HG := Lib.hid (show blankB c = false by rw [HF.out]; simp [*])
 clear HF
 clear e9 e10 e13 e32
 go_enter Tryz.func202, Tryz.ntmps202
 go_wp2
 go_ret
 exact ⟨by rw [HG.out]; rfl, rfl⟩
theorem specials_index (c : UInt8) : decide (Lib.indexByte specials c < 0) = !specials.contains c := by
 have h := Lib.indexByte_ge specials c
 by_cases e : Lib.indexByte specials c < 0
 ·have e1 : Lib.indexByte specials c = -1 := by omega
  have h2 := Lib.indexByte_none e1
  have : specials.contains c = false := by
   cases hc : specials.contains c with
   | false => rfl
   | true =>
    have hm : c ∈ specials := by simpa using hc
    obtain ⟨k, hk, rfl⟩ := List.getElem_of_mem hm
    exact absurd (List.getElem?_eq_getElem hk) (h2 k)
  rw [this, decide_eq_true e]; rfl
 ·obtain ⟨o, ho⟩ : ∃ o : Nat, Lib.indexByte specials c = o := ⟨(Lib.indexByte specials c).toNat, by omega⟩
  have h2 := (Lib.indexByte_some ho).1
  have : specials.contains c = true := by simpa using List.mem_of_getElem? h2
  rw [this, decide_eq_false e]; rfl
theorem closeP_cons (z : UInt8) (d : Nat) (c : UInt8) (r : List UInt8) : closeP z d (c :: r) =
  if c = 92 then (closeP z d (r.drop 1)).map (· + 2) else if c = z then (if d = 1 then some 1 else (closeP z (d - 1) r).map (· + 1))
  else if c = 40 ∧ z = 41 then (closeP z (d + 1) r).map (· + 1) else (closeP z d r).map (· + 1) := by
 cases r with
 | nil =>
  unfold closeP
  by_cases h1 : c = 92
  ·rw [if_pos h1, if_pos h1]; unfold closeP; rfl
  ·rw [if_neg h1, if_neg h1]
   by_cases h2 : c = z
   ·rw [if_pos h2]
    by_cases h3 : d = 1
    ·rw [if_pos ⟨h2, h3⟩, if_pos h3]
    ·rw [if_neg (fun h => h3 h.2), if_neg h3]; rfl
   ·rw [if_neg (fun h => h2 h.1), if_neg h2]
    split <;> rfl
 | cons x t =>
  conv => lhs; unfold closeP
  rfl
theorem drop_at {l : List UInt8} {k : Nat} (hk : k < l.length) : l.drop k = l[k] :: l.drop (k + 1) := List.drop_eq_getElem_cons hk
def closedV (z : UInt8) (l : List UInt8) : Nat × Bool := match closeP z 1 (l.drop 1) with
 | some m => (m + 1, true)
 | none => (l.length, false)
theorem map_map_add (o : Option Nat) (a b : Nat) : (o.map (· + a)).map (· + b) = o.map (· + (a + b)) := by
 cases o with
 | none => rfl
 | some x =>
  show some (x + a + b) = some (x + (a + b))
  rw [Nat.add_assoc]
theorem u8_int_eq {c d : UInt8} : (c.toNat : Int) = (d.toNat : Int) ↔ c = d := ⟨fun h => UInt8.toNat_inj.1 (by omega), fun h => by rw [h]⟩
def ClRel (z : UInt8) (l : List UInt8) (d k : Nat) : Prop := closeP z 1 (l.drop 1) = (closeP z d (l.drop k)).map (· + (k - 1))
theorem tw_stop {p : UInt8 → Bool} : ∀ {l : List UInt8} {k : Nat} (hk : k < l.length), (∀ j (hj : j < l.length), j < k → p l[j] = true) → p l[k] = false → (l.takeWhile p).length = k
 | [], k, hk, _, _ => by simp at hk
 | a :: r, 0, hk, _, h => by
  have h' : p a = false := h
  rw [List.takeWhile_cons, if_neg (by rw [h']; simp)]; rfl
 | a :: r, k + 1, hk, h1, h => by
  have h0 : p a = true := h1 0 (by simp) (by omega)
  rw [List.takeWhile_cons, if_pos h0, List.length_cons, tw_stop (l := r) (k := k) (by simpa using hk) (fun j hj hjk => h1 (j + 1) (by simpa using hj) (by omega)) h]
theorem tw_all {p : UInt8 → Bool} : ∀ {l : List UInt8}, (∀ j (hj : j < l.length), p l[j] = true) → (l.takeWhile p).length = l.length
 | [], _ => rfl
 | a :: r, h => by
  have h0 : p a = true := h 0 (by simp)
  rw [List.takeWhile_cons, if_pos h0, List.length_cons, List.length_cons, tw_all (l := r) fun j hj => h (j + 1) (by simpa using hj)]
end Go.Proofs.YthidbmeaccpjdaaGreatDoor
section
namespace Go.Proofs.YthidbmeaccpjdaaGreatDoor
open Go.RowKit
set_option linter.unusedVariables false
theorem tok_info : (Tryz.prog.info? 94).map (fun i => (i.zero, i.size, i.bytes)) = some (some (.agg #[.int .i64 0, .string ByteArray.empty]), 2, 24) := by kernel_rfl
def tokCells (t : Tok) : List Value := [.int .i64 (t.kind), .string (ba (t.text))]
def TokOk (t : Tok) : Prop := (-9223372036854775808 ≤ t.kind ∧ t.kind ≤ 9223372036854775807)
def Toks (w : World) (B : Nat) (A : Option Addr) (n : Nat) (ts : List (Tok)) : Prop :=
 n = ts.length ∧ ∀ k (hk : k < ts.length), ∃ ad, A = some ad ∧ (ad.add (k * 2)).block < B ∧ w.cell? (ad.add (k * 2)) = some (.int .i64 (ts[k].kind)) ∧ w.cell? ⟨(ad.add (k * 2)).block, (ad.add (k * 2)).off + 1, none⟩ = some (.string (ba (ts[k].text))) ∧ TokOk ts[k]
section
variable {w w' : World} {B B' n : Nat} {A : Option Addr} {ts : List (Tok)}
theorem Toks.below (h : Toks w B A n ts) (hb : Below B w w') : Toks w' B A n ts := by
 refine ⟨h.1, fun k hk => ?_⟩
 obtain ⟨ad, e, h1, c0, c1, h5⟩ := h.2 k hk
 exact ⟨ad, e, h1, (hb.cell h1).trans c0, (hb.cell (p := ⟨(ad.add (k * 2)).block, _, none⟩) h1).trans c1, h5⟩
theorem Toks.more (h : Toks w B A n ts) (hB : B ≤ B') : Toks w B' A n ts := by
 refine ⟨h.1, fun k hk => ?_⟩
 obtain ⟨ad, e, h1, h2⟩ := h.2 k hk
 exact ⟨ad, e, Nat.lt_of_lt_of_le h1 hB, h2⟩
theorem Toks.nil_ : Toks w B A 0 [] := ⟨rfl, fun k hk => by simp at hk⟩
theorem Toks.len (h : Toks w B A n ts) : ts.length = n := h.1.symm
theorem Toks.cutB {ad : Addr} (h : Toks w B (some ad) n ts) (k : Nat) (hk : k ≤ n) : Toks w B (some (ad.add (k * 2))) (n - k) (ts.drop k) := by
 refine ⟨by rw [List.length_drop, h.len], fun j hj => ?_⟩
 rw [List.length_drop] at hj
 obtain ⟨ad', e, r⟩ := h.2 (k + j) (by omega)
 injection e with e
 subst e
 refine ⟨_, rfl, ?_⟩
 rw [add_add', show k * 2 + j * 2 = (k + j) * 2 by omega, List.getElem_drop]
 exact r
end
structure OwnToks (w : World) (B : Nat) (v : Value) (ts : List (Tok)) : Prop where
 row : w.ownsRow B 94 2 v ts.length (ts.flatMap tokCells)
 each : ∀ t, t ∈ ts → TokOk t
theorem OwnToks.nil_ (w : World) (B : Nat) : OwnToks w B (.slice none 0 0) [] := ⟨World.ownsRow_nil _ _ _ _, fun t h => by cases h⟩
theorem OwnToks.below {w w' : World} {B : Nat} {v : Value} {ts : List (Tok)} (h : OwnToks w B v ts) (hb : Below w.heap.size w w') : OwnToks w' B v ts :=
 ⟨ownsRow_block h.row fun b e => hb.block b (h.row.lt b e).2, h.each⟩
theorem OwnToks.block {w w' : World} {B : Nat} {v : Value} {ts : List (Tok)} (h : OwnToks w B v ts) (hb : ∀ b, v.ownBlock = some b → w'.heap[b]? = w.heap[b]?) : OwnToks w' B v ts := ⟨ownsRow_block h.row hb, h.each⟩
theorem OwnToks.more {w : World} {B B' : Nat} {v : Value} {ts : List (Tok)} (h : OwnToks w B v ts) (hB : B' ≤ B) : OwnToks w B' v ts := by
 obtain ⟨⟨h0, h1⟩, h2⟩ := h
 refine ⟨⟨h0, ?_⟩, h2⟩
 rcases h1 with h1 | ⟨g, cap, cur, e, hb, r⟩
 ·exact .inl h1
 ·exact .inr ⟨g, cap, cur, e, by omega, r⟩
theorem tok_len (ts : List (Tok)) : (ts.flatMap tokCells).length = ts.length * 2 := by induction ts with | nil => rfl | cons a r ih => simp [tokCells] at ih ⊢; omega
theorem tok_get : ∀ (ts : List (Tok)) j (hj : j < ts.length) i (hi : i < 2), (ts.flatMap tokCells)[j * 2 + i]? = (tokCells ts[j])[i]? := fun ts => by
 induction ts with
 | nil => intro j hj; simp at hj
 | cons a r ih =>
  intro j hj i hi
  cases j with
  | zero =>
   simp only [List.flatMap_cons, List.getElem_cons_zero, Nat.zero_mul, Nat.zero_add]
   rw [List.getElem?_append_left (by simp [tokCells]; omega)]
  | succ j =>
   have := ih j (by simpa using hj) i hi
   simp only [List.flatMap_cons, List.getElem_cons_succ]
   rw [List.getElem?_append_right (by simp [tokCells]; omega), show (j + 1) * 2 + i - (tokCells a).length = j * 2 + i by simp [tokCells]; omega]
   exact this
theorem tok_addS (a : Addr) {i : Nat} (hi : i ≠ 0) : a.add i = ⟨a.block, a.off + i, none⟩ := by unfold Addr.add; rw [if_neg hi]
theorem OwnToks.reads {w : World} {B : Nat} {v : Value} {ts : List (Tok)} (h : OwnToks w B v ts) : ∃ A c, v = .slice A ts.length c ∧ ts.length ≤ c ∧ c ≤ maxLen ∧ Toks w w.heap.size A ts.length ts := by
 have h0 := h.row
 rcases h0.2 with ⟨rfl, hn⟩ | ⟨g, cap, cur, rfl, hb, hg, q1, q2, q3⟩
 ·have : ts = [] := List.eq_nil_of_length_eq_zero hn
  subst this
  exact ⟨none, 0, rfl, Nat.le_refl _, by simp, Toks.nil_⟩
 ·refine ⟨_, cap, rfl, q1, q2, rfl, fun k hk => ?_⟩
  have hc : ∀ i u, i < 2 → (tokCells ts[k])[i]? = some u → w.cell? ⟨g, k * 2 + i, none⟩ = some u := fun i u hi hu => by
   have := h0.cells (g := g) rfl (k * 2 + i) u (by rw [tok_get ts k hk i hi]; exact hu)
   unfold Addr.add at this
   by_cases e0 : k * 2 + i = 0
   ·rw [if_pos e0] at this; rw [e0]; exact this
   ·rw [if_neg e0] at this; rw [Nat.zero_add] at this; exact this
  have e1 : (Addr.add ⟨g, 0, none⟩ (k * 2)) = ⟨g, k * 2, none⟩ := by
   unfold Addr.add
   split
   ·rename_i e0; rw [e0]
   ·rw [Nat.zero_add]
  refine ⟨⟨g, 0, none⟩, rfl, by rw [add_block]; exact heap_lt hg, ?_, ?_, h.each _ (List.getElem_mem hk)⟩
  ·rw [e1]; exact hc 0 _ (by omega) rfl
  ·rw [e1]; exact hc 1 _ (by omega) rfl
theorem tok_one (l : List (Tok)) : ∀ u ∈ l.flatMap tokCells, u.oneCell' = true := by
 intro u hu
 obtain ⟨t, _, ht⟩ := List.mem_flatMap.1 hu
 simp only [tokCells, List.mem_cons, List.not_mem_nil, or_false] at ht
 rcases ht with rfl | rfl <;> rfl
set_option maxRecDepth 100000 in
theorem run_pushTok {W : World} {B : Nat} {v : Value} {ts : List (Tok)} {x0 : Int} {x1 : List UInt8} (hT : OwnToks W B v ts) (hB : B ≤ W.heap.size) (hf : TokOk (⟨x0, x1⟩ : Tok)) (hlen : ts.length ≤ 1000000000) (c : Nat) (ty : TypeId) :
  ∃ v' w', (Builtin.append_ #[90, 90] ty #[v, .slice (some ⟨W.heap.size, 0, none⟩) 1 c]).run Tryz.prog (W.alloc (.cells #[.int .i64 x0, .string (ba x1)] 94)) = .ok v' w' ∧ OwnToks w' B v' (ts ++ [(⟨x0, x1⟩ : Tok)]) ∧ W.grownBy w' v.ownBlock := by
 obtain ⟨i0, hi, hz0, hz1, hz2⟩ := info_parts tok_info
 obtain ⟨v', w', hrun, h1, h2, _, h4⟩ := run_append_own_at (P := Tryz.prog) (W.alloc (.cells #[.int .i64 x0, .string (ba x1)] 94)) B 90 ty 94 i0 _ 2 24 Tryz.underlying90 hi hz0 hz1 hz2 rfl (by omega) v ts.length (ts.flatMap tokCells) (World.ownsRow.alloc hT.row _) ⟨W.heap.size, 0, none⟩ 1 c (tokCells (⟨x0, x1⟩ : Tok)) rfl (World.news_of_block (MapKept.heap_alloc W _).1) (fun u hu => tok_one [(⟨x0, x1⟩ : Tok)] u (by simpa using hu)) (by simp only [maxLen]; omega) (by omega) (by simp; omega)
 have h5 := World.grownBy_alloc W (.cells #[.int .i64 x0, .string (ba x1)] 94) v.ownBlock
 refine ⟨v', w', hrun, ⟨by simpa using h1, fun t ht => ?_⟩, ⟨h2.os.trans h5.os, h2.tape.trans h5.tape, h2.output.trans h5.output, Nat.le_trans h5.size h2.size, fun k hk hne => (h2.block k (by simp; omega) hne).trans (h5.block k hk hne)⟩⟩
 rcases List.mem_append.1 ht with ht | ht
 ·exact hT.each t ht
 ·rw [List.mem_singleton] at ht; subst ht; exact hf
theorem wp_pushTok {o : Oper} {a : Act} {K : Act → World → Prop} {W : World} {Q : Exit → Act → World → Prop} {B : Nat} {v : Value} {ts : List (Tok)} {x0 : Int} {x1 : List UInt8} (hT : OwnToks W B v ts) (hB : B ≤ W.heap.size) (hf : TokOk (⟨x0, x1⟩ : Tok))
  (hlen : ts.length ≤ 1000000000) (s y : Operand) (c : Nat)
  (ho : o.op = .call { callee := .builtin .append, args := #[s, y], argTypes := #[90, 90] }) (hs : a.eval s = v) (hx : a.eval y = .slice (some ⟨W.heap.size, 0, none⟩) 1 c)
  (h : ∀ v' w', OwnToks w' B v' (ts ++ [(⟨x0, x1⟩ : Tok)]) → W.grownBy w' v.ownBlock → K (a.put o.dst v') w') : o.wp Tryz.prog a (W.alloc (.cells #[.int .i64 x0, .string (ba x1)] 94)) K Q := by
 obtain ⟨v', w', hrun, h1, h2⟩ := run_pushTok hT hB hf hlen c o.type
 unfold Oper.wp execOp
 simp only [ho, resolve, invoke, builtin, Sem.run_bind, Sem.run_pure, Result.andThen_ok, List.map_toArray, List.map_cons, List.map_nil, hs, hx, hrun]
 exact h v' w' h1 h2
theorem wpList_pushTok {ops : Array Oper} {rest : List Oper} {o : Oper} {a : Act} {W : World} {Q : Exit → Act → World → Prop} {B : Nat} {v : Value} {ts : List (Tok)} {x0 : Int} {x1 : List UInt8} (hT : OwnToks W B v ts) (hB : B ≤ W.heap.size) (hf : TokOk (⟨x0, x1⟩ : Tok))
  (hlen : ts.length ≤ 1000000000) (hgd : o.guard = none) (s y : Operand) (c : Nat)
  (ho : o.op = .call { callee := .builtin .append, args := #[s, y], argTypes := #[90, 90] }) (hs : a.eval s = v) (hx : a.eval y = .slice (some ⟨W.heap.size, 0, none⟩) 1 c)
  (h : ∀ v' w', OwnToks w' B v' (ts ++ [(⟨x0, x1⟩ : Tok)]) → W.grownBy w' v.ownBlock → wpList Tryz.prog ops Q rest (a.put o.dst v') w') :
  wpList Tryz.prog ops Q (o :: rest) a (W.alloc (.cells #[.int .i64 x0, .string (ba x1)] 94)) :=
 wpList_plain hgd fun _ hK => wp_pushTok hT hB hf hlen s y c ho hs hx fun v' w' h2 h3 => hK _ _ (h v' w' h2 h3)
theorem Toks.cells {w : World} {B m : Nat} {ad : Addr} {l : List (Tok)} (h : Toks w B (some ad) m l) : ∀ j u, (l.flatMap tokCells)[j]? = some u → w.cell? (ad.add j) = some u := by
 intro j u hu
 have hj : j < l.length * 2 := by have := (List.getElem?_eq_some_iff.1 hu).1; rw [tok_len] at this; exact this
 obtain ⟨k, i, hi, rfl⟩ : ∃ k i, i < 2 ∧ j = k * 2 + i := ⟨j / 2, j % 2, by omega, by omega⟩
 have hk : k < l.length := by omega
 rw [tok_get l k hk i hi] at hu
 obtain ⟨ad', e, _, c0, c1, _⟩ := h.2 k hk
 injection e with e
 subst e
 rw [← add_add']
 match i, hi with
 | 0, _ =>
  have hu' : Value.int .i64 (l[k].kind) = u := Option.some.inj hu
  subst hu'
  have e0 : (ad.add (k * 2)).add 0 = ad.add (k * 2) := by unfold Addr.add; rfl
  rw [e0]; exact c0
 | 1, _ =>
  have hu' : Value.string (ba (l[k].text)) = u := Option.some.inj hu
  subst hu'
  rw [tok_addS _ (by decide)]; exact c1
end Go.Proofs.YthidbmeaccpjdaaGreatDoor
end
namespace Go.Proofs.YthidbmeaccpjdaaGreatDoor
open Go.RowKit
set_option linter.unusedVariables false
set_option maxHeartbeats 4000000
def unescF : Bool → List UInt8 → List UInt8
 | _, [] => []
 | true, c :: r => c :: unescF false r
 | false, c :: r => if c = 92 then unescF true r else if c = 10 ∨ c = 13 then unescF false r else c :: unescF false r
theorem unescF_eq : ∀ l, unescF false l = unescP l
 | [] => by unfold unescF unescP; rfl
 | [c] => by
  unfold unescP
  show (if c = 92 then unescF true [] else if c = 10 ∨ c = 13 then unescF false [] else c :: unescF false []) = _
  rw [show unescF true [] = [] from rfl, show unescF false [] = [] from rfl]
 | c :: x :: r => by
  have h1 := unescF_eq r
  have h2 := unescF_eq (x :: r)
  unfold unescP
  show (if c = 92 then unescF true (x :: r) else if c = 10 ∨ c = 13 then unescF false (x :: r) else c :: unescF false (x :: r)) = _
  rw [show unescF true (x :: r) = x :: unescF false r from rfl, h1, h2]
noncomputable def zRep : Array Value := ((Tryz.prog.info? 226).bind (·.zero)).elim #[] (·.cells)
theorem zRep_size : zRep.size = 257 := by kernel_rfl
def isNilS : Value → Bool
 | .slice none 0 0 => true
 | _ => false
theorem isNilS_eq {v : Value} (h : isNilS v = true) : v = .slice none 0 0 := by
 unfold isNilS at h
 split at h
 ·rfl
 ·cases h
theorem zRep_all : zRep.toList.all isNilS = true := by kernel_rfl
theorem zRep_at {i : Nat} (h : i < 257) : zRep[i]? = some (.slice none 0 0) := by
 have hs : i < zRep.size := by rw [zRep_size]; exact h
 rw [Array.getElem?_eq_getElem hs]
 have := List.all_eq_true.1 zRep_all zRep[i] (by simp)
 rw [isNilS_eq this]
noncomputable def yRep (v : Value) : Array Value := zRep.setIfInBounds 256 v
theorem yRep_at {v : Value} {j : Nat} (h : j < 257) : (yRep v)[j]? = some (if j = 256 then v else .slice none 0 0) := by
 unfold yRep
 rw [Array.getElem?_setIfInBounds]
 by_cases e : 256 = j
 ·subst e
  have : 256 < zRep.size := by rw [zRep_size]; decide
  simp [this]
 ·rw [if_neg e, if_neg fun h : j = 256 => e h.symm]
  exact zRep_at h
theorem nil_eql (W : World) : (binOp .eql 62 (.slice none 0 0) (.slice none 0 0)).run Tryz.prog W = .ok (.bool true) W := by kernel_rfl
def RepB (w wr : World) (R s : Nat) (d : Bool) (v : Value) (x : UInt8) : Prop := if d = true then ∃ p c, v = .slice (some ⟨p, 0, none⟩) 2 c ∧ w.heap.size ≤ p ∧ p ≠ R ∧ p ≠ s ∧ ByteRow wr p [92, x] else v = .slice none 0 0
structure BSt (w : World) (R : Nat) (a b : Bool) (ss : List (List UInt8)) (wr : World) : Prop where
 ex : ∃ s c f, RowV wr R 257 f ∧ f 256 = .slice (some ⟨s, 0, none⟩) ss.length c ∧ OwnStrs wr w.heap.size (.slice (some ⟨s, 0, none⟩) ss.length c) ss ∧ s ≠ R ∧ (∀ j, j < 256 → j ≠ 34 → j ≠ 92 → f j = .slice none 0 0) ∧ RepB w wr R s a (f 34) 34 ∧ RepB w wr R s b (f 92) 92
 low : w.heap.size ≤ R
 bel : Below w.heap.size w wr
theorem BSt.start (w : World) : BSt w (w.heap.size + 1) false false [] ((w.alloc (.cells (madeCells #[.string ByteArray.empty] 2) 9)).alloc (.cells (yRep (.slice (some ⟨w.heap.size, 0, none⟩) 0 2)) 226)) := by
 refine ⟨⟨w.heap.size, 2, (fun j => if j = 256 then .slice (some ⟨w.heap.size, 0, none⟩) 0 2 else .slice none 0 0), ?_, ?_, ?_, by omega, ?_, ?_, ?_⟩, by omega, ((Below.refl _ _).alloc (Nat.le_refl _) _).alloc (by simp) _⟩
 ·have h := RowV.made (n := 257) (w.alloc (.cells (madeCells #[.string ByteArray.empty] 2) 9)) (yRep (.slice (some ⟨w.heap.size, 0, none⟩) 0 2)) 226 (fun j hj => yRep_at hj)
  simpa using h
 ·rfl
 ·exact World.ownsRow.alloc (World.ownsRow_made w _ 2 (Nat.le_refl _) (by decide) (by simp [madeCells])) _
 ·intro j hj _ _
  exact if_neg (by omega)
 ·rfl
 ·rfl
structure ReplAt (B : Nat) (w : World) (R : Nat) (f : Nat → Value) (p q s c1 c2 c3 : Nat) : Prop where
 row : RowV w R 257 f
 list : f 256 = .slice (some ⟨s, 0, none⟩) 2 c3
 f34 : f 34 = .slice (some ⟨p, 0, none⟩) 2 c1
 f92 : f 92 = .slice (some ⟨q, 0, none⟩) 2 c2
 other : ∀ j, j < 256 → j ≠ 34 → j ≠ 92 → f j = .slice none 0 0
 r34 : ByteRow w p [92, 34]
 r92 : ByteRow w q [92, 92]
 strs : w.cell? ⟨s, 0, none⟩ = some (.string ⟨#[34]⟩) ∧ w.cell? ⟨s, 1, none⟩ = some (.string ⟨#[92]⟩)
 low : B ≤ R ∧ B ≤ p ∧ B ≤ q ∧ B ≤ s
 lt : s < w.heap.size
def Repl (B : Nat) (w : World) (R : Nat) : Prop := ∃ f p q s c1 c2 c3, ReplAt B w R f p q s c1 c2 c3
theorem RepB.next {w wr W : World} {R s s' : Nat} {d : Bool} {v : Value} {x : UInt8} (h : RepB w wr R s d v x) (hb : ∀ p, p < wr.heap.size → p ≠ s → p ≠ R → W.heap[p]? = wr.heap[p]?) (hs : s' = s ∨ wr.heap.size ≤ s') : RepB w W R s' d v x := by
 cases d with
 | false => exact h
 | true =>
  obtain ⟨p, c, rfl, h1, h2, h3, h4⟩ := h
  have h5 := h4.lt
  exact ⟨p, c, rfl, h1, h2, by omega, h4.kept (hb p h5 h3 h2)⟩
end Go.Proofs.YthidbmeaccpjdaaGreatDoor
section
namespace Go.Proofs.YthidbmeaccpjdaaGreatDoor
open Go.RowKit
set_option linter.unusedVariables false
def noDefer (ops : Array Oper) : Bool := ops.all fun o => match o.op with | .defer _ => false | _ => true
theorem noDefer_spec {ops : Array Oper} (h : noDefer ops = true) {i : Nat} {o : Oper} (hi : ops[i]? = some o) (c : _) : o.op ≠ .defer c := by
 intro e
 have hm : o ∈ ops := Array.mem_of_getElem? hi
 have := Array.all_eq_true_iff_forall_mem.1 h o hm
 rw [e] at this
 cases this
section
variable {F : Fence} {n : Nat} {P : Program} {ops : Array Oper} {Q : Exit → Act → World → Prop} {md : Region.Mode}
theorem wpIn_round {l : Nat} {o : Oper} {a : Act} {w : World} {K : Act → World → Prop} (hro : F.round = none) (hd : ∀ c, o.op ≠ .defer c) (h : o.wpIn F n P a w K Q) : o.wpIn (F.inRound l) n P a w K Q := by
 unfold Oper.wpIn at h ⊢
 rw [Fence.inRound_round, Oper.semAt_some _ _ _ hd]
 rw [hro, Oper.semAt_none] at h
 exact h
theorem wpAnyIn_round {l : Nat} (hro : F.round = none) (hd : noDefer ops = true) : ∀ (fuel : Nat) (listed : Array Bool) (a : Act) (w : World), wpAnyIn F n P md ops Q fuel listed a w → wpAnyIn (F.inRound l) n P md ops Q fuel listed a w
 | 0, _, _, _, h => h
 | fuel + 1, listed, a, w, h => by
  refine ⟨h.1, fun i hi => ?_⟩
  have h2 := wpOpIn_mono (fun a w => wpAnyIn_round (l := l) hro hd fuel _ a w) (h.2 i hi)
  unfold wpOpIn at h2 ⊢
  cases ho : ops[i]? with
  | none => rw [ho] at h2; exact h2
  | some o =>
   rw [ho] at h2
   dsimp only at h2 ⊢
   split
   ·rename_i hw
    rw [if_pos hw] at h2
    exact wpIn_round hro (noDefer_spec hd ho) h2
   ·rename_i hw
    rw [if_neg hw] at h2
    exact h2
end
end Go.Proofs.YthidbmeaccpjdaaGreatDoor
end
