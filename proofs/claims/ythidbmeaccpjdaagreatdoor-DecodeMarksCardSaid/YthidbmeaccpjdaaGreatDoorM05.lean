/- Layer 9, plain: header fields; what ReplaceAll does to a list of bytes. Maps of the call's own, told key by key (no range): strings as keys. Rows of pouch/api. Layer 12, plain: a quoted string's escapes. Layer 10: the states of Scan's and Bare's loops. -/
import Derived.Lib.Replace
import Derived.Lib.IndexLaws
import Derived.Lib.CountLaws
import Derived.Lib.SlTrimSet
import Derived.Maps.OwnSet
import Derived.Maps.OwnOps
import Derived.Maps.Views
import Derived.WideKeyEntry
import Derived.DeepKeys4
import Derived.Test.YthidbmeaccpjdaaGreatDoorM03
import Derived.Test.YthidbmeaccpjdaaGreatDoorM01
namespace Go.Proofs.YthidbmeaccpjdaaGreatDoor
open Go.RowKit
set_option linter.unusedVariables false
set_option maxHeartbeats 4000000
def repA (old new s : List UInt8) : List UInt8 := Lib.replaceK old new (Lib.count s old) s
theorem repA_nil {old new : List UInt8} (h : old ≠ []) : repA old new [] = [] := by
 have h1 : Lib.index [] old = -1 := Lib.index_past h (Lib.NoOcc.zero _ _) (by cases old with | nil => exact absurd rfl h | cons c t => simp)
 unfold repA
 rw [Lib.count_miss h1]
 rfl
theorem repA_hit {old new s : List UInt8} (h : old ≠ []) : repA old new (old ++ s) = new ++ repA old new s := by
 have h1 : Lib.index (old ++ s) old = (0 : Nat) := Lib.index_hit (Lib.NoOcc.zero _ _) (Nat.zero_le _) (by
  rw [Lib.occAt_iff_take _ _ _ (by simp)]
  simp)
 unfold repA
 rw [Lib.count_hit h h1, Nat.add_comm 1, Lib.replaceK_hit _ _ _ _ _ h1]
 simp
theorem repA_skip {old new : List UInt8} {c : UInt8} {r : List UInt8} (h : old ≠ []) (hn : Lib.occAt (c :: r) old 0 = false) : repA old new (c :: r) = c :: repA old new r := by
 have hno : Lib.NoOcc (c :: r) old 1 := (Lib.NoOcc.zero _ _).succ hn
 have h1 := Lib.index_drop hno (by simp)
 rw [List.drop_one, List.tail_cons] at h1
 unfold repA
 by_cases hm : Lib.index r old = -1
 ·have h2 : Lib.index (c :: r) old = -1 := by rw [h1, hm]; rfl
  rw [Lib.count_miss h2, Lib.count_miss hm]
  rfl
 ·have hge := Lib.index_ge r old
  obtain ⟨i, hi⟩ : ∃ i : Nat, Lib.index r old = i := ⟨(Lib.index r old).toNat, by omega⟩
  have h2 : Lib.index (c :: r) old = ((i + 1 : Nat) : Int) := by
   rw [h1, hi]
   have : ¬ ((i : Int) == -1) = true := fun e => by have := beq_iff_eq.1 e; omega
   rw [if_neg this]
   omega
  rw [Lib.count_hit h h2, Lib.count_hit h hi, Nat.add_comm 1, Nat.add_comm 1, Lib.replaceK_hit _ _ _ _ _ h2, Lib.replaceK_hit _ _ _ _ _ hi, show i + 1 + old.length = (i + old.length) + 1 by omega, List.drop_succ_cons, List.take_succ_cons]
  simp
theorem replaceAll_eq {old new : List UInt8} (hne : old ≠ new) (s : List UInt8) : Lib.replaceAll s old new = repA old new s := by
 unfold Lib.replaceAll Lib.replace repA
 have h1 : ¬ (old == new) = true := fun e => hne (beq_iff_eq.1 e)
 rw [if_neg h1]
 unfold Lib.replaceNum
 rw [if_pos (.inl (by omega))]
def crlfP : List UInt8 → List UInt8
 | [] => []
 | [c] => [c]
 | c :: d :: r => if c = 13 ∧ d = 10 then crlfP r else c :: crlfP (d :: r)
theorem occ_head {c : UInt8} {r : List UInt8} {x : UInt8} {t : List UInt8} (h : c ≠ x) : Lib.occAt (c :: r) (x :: t) 0 = false := by
 cases ho : Lib.occAt (c :: r) (x :: t) 0 with
 | false => rfl
 | true =>
  have := Lib.occAt_head rfl ho
  simp at this
  exact absurd this h
theorem crlf_eq : ∀ (n : Nat) (l : List UInt8), l.length ≤ n → repA [13, 10] [] l = crlfP l
 | _, [], _ => repA_nil (by simp)
 | n, [c], _ => by
  rw [repA_skip (by simp), repA_nil (by simp)]
  ·rfl
  ·cases ho : Lib.occAt [c] [13, 10] 0 with
   | false => rfl
   | true =>
    have := Lib.occAt_room ho
    simp at this
 | 0, c :: d :: r, h => by simp at h
 | n + 1, c :: d :: r, h => by
  have h1 : r.length ≤ n := by simp at h; omega
  have h2 : (d :: r).length ≤ n := by simp at h ⊢; omega
  by_cases he : c = 13 ∧ d = 10
  ·obtain ⟨rfl, rfl⟩ := he
   have h3 := repA_hit (old := [13, 10]) (new := []) (s := r) (by simp)
   simp only [List.cons_append, List.nil_append] at h3
   rw [h3, crlf_eq n r h1]
   rfl
  ·rw [repA_skip (by simp), crlf_eq n (d :: r) h2]
   ·show _ = (if c = 13 ∧ d = 10 then crlfP r else c :: crlfP (d :: r))
    rw [if_neg he]
   ·cases ho : Lib.occAt (c :: d :: r) [13, 10] 0 with
    | false => rfl
    | true =>
     rw [Lib.occAt_iff_take _ _ _ (by simp)] at ho
     simp at ho
     exact absurd ho he
theorem lf_eq : ∀ (l : List UInt8), repA [10] [] l = l.filter fun c => decide (c ≠ 10)
 | [] => repA_nil (by simp)
 | c :: r => by
  by_cases he : c = 10
  ·subst he
   have h3 := repA_hit (old := [10]) (new := []) (s := r) (by simp)
   simp only [List.cons_append, List.nil_append] at h3
   rw [h3, lf_eq r]
   rfl
  ·rw [repA_skip (by simp) (occ_head he), lf_eq r, List.filter_cons_of_pos (by simpa using he)]
def unfoldP (l : List UInt8) : List UInt8 := (crlfP l).filter fun c => decide (c ≠ 10)
theorem crlfP_len : ∀ (n : Nat) (l : List UInt8), l.length ≤ n → (crlfP l).length ≤ l.length
 | _, [], _ => Nat.le_refl _
 | _, [c], _ => Nat.le_refl _
 | 0, c :: d :: r, h => by simp at h
 | n + 1, c :: d :: r, h => by
  have h1 := crlfP_len n r (by simp at h; omega)
  have h2 := crlfP_len n (d :: r) (by simp at h ⊢; omega)
  show (if c = 13 ∧ d = 10 then crlfP r else c :: crlfP (d :: r)).length ≤ _
  split
  ·simp only [List.length_cons]; omega
  ·simp only [List.length_cons] at h2 ⊢; omega
theorem unfoldP_len (l : List UInt8) : (unfoldP l).length ≤ l.length := Nat.le_trans (List.length_filter_le _ _) (crlfP_len _ l (Nat.le_refl _))
def endP (l : List UInt8) : Nat := match cutP 10 l with
 | some q => q.1.length + 1
 | none => l.length
theorem endP_le (l : List UInt8) : endP l ≤ l.length := by
 unfold endP
 cases h : cutP 10 l with
 | none => exact Nat.le_refl _
 | some q =>
  have h1 := (cutP_some (a := q.1) (b := q.2) h).1
  show q.1.length + 1 ≤ _
  rw [h1]
  simp
theorem endP_pos {l : List UInt8} (h : l ≠ []) : 1 ≤ endP l := by
 unfold endP
 cases h1 : cutP 10 l with
 | some q => show 1 ≤ q.1.length + 1; omega
 | none =>
  show 1 ≤ l.length
  cases l with
  | nil => exact absurd rfl h
  | cons c r => simp
def tabB (c : UInt8) : Bool := decide (c = 32) || decide (c = 9)
def goesP (l : List UInt8) : Bool := match l with
 | [] => false
 | c :: _ => tabB c
def nudeP (l : List UInt8) : List UInt8 := if l.getLast? = some 10 then (if l.dropLast.getLast? = some 13 then l.dropLast.dropLast else l.dropLast) else l
theorem nudeP_len (l : List UInt8) : (nudeP l).length ≤ l.length := by
 unfold nudeP
 split
 ·split
  ·rw [List.length_dropLast, List.length_dropLast]; omega
  ·rw [List.length_dropLast]; omega
 ·exact Nat.le_refl _
def nameB (c : UInt8) : Bool := decide (33 ≤ c ∧ c ≤ 126) && decide (c ≠ 58)
def nameOk (l : List UInt8) : Bool := l.all nameB && !l.isEmpty
def blanksP : List UInt8 := [32, 9]
structure Fld where
 name : List UInt8
 value : List UInt8
 raw : List UInt8
 bad : Bool
def fldP (raw : List UInt8) : Fld := match cutP 58 (nudeP (raw.take (endP raw))) with
 | none => ⟨[], [], raw, true⟩
 | some q => if nameOk (Lib.trimRightS q.1 blanksP) = true then ⟨Lib.trimRightS q.1 blanksP, nudeP (raw.drop (q.1.length + 1)), raw, false⟩ else ⟨[], [], raw, true⟩
def moreP : Nat → List UInt8 → Nat
 | 0, _ => 0
 | f + 1, l => if goesP l = true then endP l + moreP f (l.drop (endP l)) else 0
theorem moreP_le : ∀ (f : Nat) (l : List UInt8), moreP f l ≤ l.length
 | 0, l => Nat.zero_le _
 | f + 1, l => by
  unfold moreP
  split
  ·have h1 := moreP_le f (l.drop (endP l))
   have h2 := endP_le l
   rw [List.length_drop] at h1
   omega
  ·exact Nat.zero_le _
theorem goes_ne {l : List UInt8} (h : goesP l = true) : l ≠ [] := by
 rintro rfl
 cases h
theorem moreP_fuel : ∀ (f g : Nat) (l : List UInt8), l.length ≤ f → l.length ≤ g → moreP f l = moreP g l
 | 0, g, l, hf, hg => by
  have : l = [] := List.eq_nil_of_length_eq_zero (by omega)
  subst this
  cases g with
  | zero => rfl
  | succ g => rfl
 | f + 1, 0, l, hf, hg => by
  have : l = [] := List.eq_nil_of_length_eq_zero (by omega)
  subst this
  rfl
 | f + 1, g + 1, l, hf, hg => by
  unfold moreP
  by_cases h : goesP l = true
  ·rw [if_pos h, if_pos h]
   have h1 := endP_pos (goes_ne h)
   have h2 := endP_le l
   rw [moreP_fuel f g (l.drop (endP l)) (by rw [List.length_drop]; omega) (by rw [List.length_drop]; omega)]
  ·rw [if_neg h, if_neg h]
def headF : Nat → List UInt8 → List Fld × Nat
 | 0, _ => ([], 0)
 | f + 1, l => if l = [] then ([], 0) else
  if nudeP (l.take (endP l)) = [] then ([], endP l) else
  let m := endP l + moreP l.length (l.drop (endP l))
  (fldP (l.take m) :: (headF f (l.drop m)).1, m + (headF f (l.drop m)).2)
def headP (l : List UInt8) : List Fld × Nat := headF l.length l
theorem headF_fuel : ∀ (f g : Nat) (l : List UInt8), l.length ≤ f → l.length ≤ g → headF f l = headF g l
 | 0, g, l, hf, hg => by
  have : l = [] := List.eq_nil_of_length_eq_zero (by omega)
  subst this
  cases g with
  | zero => rfl
  | succ g => rfl
 | f + 1, 0, l, hf, hg => by
  have : l = [] := List.eq_nil_of_length_eq_zero (by omega)
  subst this
  rfl
 | f + 1, g + 1, l, hf, hg => by
  unfold headF
  by_cases h : l = []
  ·rw [if_pos h, if_pos h]
  ·rw [if_neg h, if_neg h]
   by_cases h2 : nudeP (l.take (endP l)) = []
   ·rw [if_pos h2, if_pos h2]
   ·rw [if_neg h2, if_neg h2]
    have h3 := endP_pos h
    have h4 := endP_le l
    dsimp only
    rw [headF_fuel f g (l.drop (endP l + moreP l.length (l.drop (endP l)))) (by rw [List.length_drop]; omega) (by rw [List.length_drop]; omega)]
def getP (l : List Fld) (name : List UInt8) : Option (List UInt8) := (l.find? fun f => !f.bad && decide (smallP f.name = smallP name)).map fun f => Lib.trimS (unfoldP f.value) blanksP
def airP (l : List UInt8) : List UInt8 := l.map fun c => if c = 13 ∨ c = 10 then 32 else c
def pieceP : List UInt8 → Nat
 | [] => 1
 | [_] => 1
 | c :: d :: r => if tabB d = true ∧ tabB c = false then 1 else 1 + pieceP (d :: r)
def foldG : Nat → Bool → Nat → List UInt8 → List UInt8
 | 0, _, _, _ => []
 | f + 1, first, n, v => if v = [] then [] else
  if first = false ∧ 78 < n + pieceP v then [13, 10] ++ v.take (pieceP v) ++ foldG f false (pieceP v) (v.drop (pieceP v))
  else v.take (pieceP v) ++ foldG f false (n + pieceP v) (v.drop (pieceP v))
def foldV (name v : List UInt8) : List UInt8 := foldG v.length true (name.length + 2) v
def putP (name value : List UInt8) : List UInt8 := if nameOk name = true then name ++ [58, 32] ++ foldV name (Lib.trimS (airP value) blanksP) ++ [13, 10] else []
end Go.Proofs.YthidbmeaccpjdaaGreatDoor
section
namespace Go.Proofs.YthidbmeaccpjdaaGreatDoor
open Go.RowKit
set_option linter.unusedVariables false
def asIs (v : Value) : Option (DataW Value × List MemPlace) := some (.held v, [])
structure KeyL (k : TypeId) (κ : Type) where
 kv : κ → Value
 fits : κ → Prop
 kk : κ → Lit
 keyed : Maps.Keyed Tryz.prog k
 of : ∀ x, fits x → keyOf Tryz.prog k (kv x) = some (kk x)
 inj : ∀ x y, fits x → fits y → kk x = kk y → x = y
def MapL {k : TypeId} {κ : Type} (K : KeyL k κ) (w : World) (b : Nat) (f : κ → Option Value) (c : Nat) : Prop :=
 ∃ D, w.ownsMap Tryz.prog k asIs b c D ∧ ∀ x, K.fits x → ∀ z, D.atKey (K.kk x) z = match f x with | some v => .held v | none => z
theorem ownsMap_block {H : Type} {P : Program} {k : TypeId} {R : Value → Option (DataW H × List MemPlace)} {w w' : World} {b n : Nat} {D : DataW H} (h : w.ownsMap P k R b n D) (hb : w'.heap[b]? = w.heap[b]?) : w'.ownsMap P k R b n D := by
 obtain ⟨es, clock, h1, h2⟩ := h
 exact ⟨es, clock, hb.trans h1, h2⟩
section
variable {k : TypeId} {κ : Type} {K : KeyL k κ} {w w' : World} {b c : Nat} {f : κ → Option Value}
theorem MapL.keep (h : MapL K w b f c) (hb : w'.heap[b]? = w.heap[b]?) : MapL K w' b f c := by
 obtain ⟨D, h1, h2⟩ := h; exact ⟨D, ownsMap_block h1 hb, h2⟩
theorem MapL.lt (h : MapL K w b f c) : b < w.heap.size := by obtain ⟨D, h1, _⟩ := h; exact h1.lt
theorem MapL.below (h : MapL K w b f c) (hb : Below w.heap.size w w') : MapL K w' b f c := h.keep (hb.block b h.lt)
theorem MapL.mono (h : MapL K w b f c) {c' : Nat} (hc : c ≤ c') : MapL K w b f c' := by
 obtain ⟨D, h1, h2⟩ := h; exact ⟨D, h1.mono hc, h2⟩
theorem MapL.congr (h : MapL K w b f c) {g : κ → Option Value} (hg : ∀ x, K.fits x → g x = f x) : MapL K w b g c := by
 obtain ⟨D, h1, h2⟩ := h; exact ⟨D, h1, fun x hx z => by rw [hg x hx]; exact h2 x hx z⟩
theorem MapL.made (K : KeyL k κ) (w : World) : MapL K (w.alloc (.map #[] 0)) w.heap.size (fun _ => none) 0 := ⟨_, World.ownsMap_made _ _ _ _, fun _ _ _ => rfl⟩
theorem MapL.look {t e : TypeId} (h : MapL K w b f c) (ht : Tryz.prog.underlying t = some (.map k e)) {z : Value} (hz : (zeroValue e).run Tryz.prog w = .ok z w) {x : κ} (hx : K.fits x) :
  (Instr.lookup t (.map (some b)) (K.kv x) false).run Tryz.prog w = .ok ((f x).getD z) w := by
 obtain ⟨D, h1, h2⟩ := h
 obtain ⟨v, ps, hrun, hv⟩ := h1.lookup K.keyed ht hz (zd := .held z) (zp := []) rfl (K.of x hx)
 rw [h2 x hx] at hv
 rw [hrun]
 unfold asIs at hv
 cases hn : f x with
 | none => rw [hn] at hv; simp only [Option.some.injEq, Prod.mk.injEq, DataW.held.injEq] at hv; rw [hv.1]; rfl
 | some g => rw [hn] at hv; simp only [Option.some.injEq, Prod.mk.injEq, DataW.held.injEq] at hv; rw [hv.1]; rfl
theorem MapL.look_ok {t e : TypeId} (h : MapL K w b f c) (ht : Tryz.prog.underlying t = some (.map k e)) {z : Value} (hz : (zeroValue e).run Tryz.prog w = .ok z w) {x : κ} (hx : K.fits x) :
  (Instr.lookup t (.map (some b)) (K.kv x) true).run Tryz.prog w = .ok (.tuple #[(f x).getD z, .bool (f x).isSome]) w := by
 obtain ⟨D, h1, h2⟩ := h
 obtain ⟨v, ps, hrun, hv⟩ := h1.look_ok K.keyed ht hz (zd := .held z) (zp := []) rfl (K.of x hx)
 have h3 := h2 x hx
 rw [h3] at hv
 rw [hrun]
 unfold asIs at hv
 cases hn : f x with
 | none =>
  rw [hn] at hv h3
  simp only [Option.some.injEq, Prod.mk.injEq, DataW.held.injEq] at hv
  rw [hv.1, Maps.has_false_of_atKey h3]
  rfl
 | some g =>
  rw [hn] at hv h3
  simp only [Option.some.injEq, Prod.mk.injEq, DataW.held.injEq] at hv
  rw [hv.1, Maps.has_true_of_atKey h3]
  rfl
open Classical in
noncomputable def updK {κ : Type} (f : κ → Option Value) (x : κ) (v : Value) : κ → Option Value := fun y => if y = x then some v else f y
theorem updK_same {κ : Type} (f : κ → Option Value) (x : κ) (v : Value) : updK f x v x = some v := by unfold updK; rw [if_pos rfl]
theorem updK_other {κ : Type} (f : κ → Option Value) {x y : κ} (v : Value) (h : y ≠ x) : updK f x v y = f y := by unfold updK; rw [if_neg h]
theorem MapL.put {t e : TypeId} (h : MapL K w b f c) (ht : Tryz.prog.underlying t = some (.map k e)) (hc : c < maxLen) {x : κ} (hx : K.fits x) (v : Value) :
  ∃ w', (Instr.mapUpdate t (.map (some b)) (K.kv x) v).run Tryz.prog w = .ok () w' ∧ MapL K w' b (updK f x v) (c + 1) ∧ w.grownBy w' (some b) := by
 obtain ⟨D, h1, h2⟩ := h
 have hm := h1.isMap
 obtain ⟨w', hrun, ho, hg⟩ := h1.update K.keyed ht hc (d := .held v) (ps := []) (K.of x hx) (val := v) rfl
 refine ⟨w', hrun, ⟨_, ho, fun y hy z => ?_⟩, hg⟩
 by_cases e : y = x
 ·subst e
  rw [updK_same, Maps.atKey_put_same hm (K.keyed.key (K.of y hx))]
 ·rw [updK_other _ _ e, Maps.atKey_put_other (fun e1 => e (K.inj y x hy hx e1)), h2 y hy]
end
theorem laidOut : laidOutB Tryz.prog = true := by kernel_rfl
theorem wf64 {i : Int} (h : -9223372036854775808 ≤ i ∧ i ≤ 9223372036854775807) : (Lit.int .i64 i).wf = true := by
 unfold Lit.wf
 have h1 : IntKind.i64.min = -9223372036854775808 := by decide
 have h2 : IntKind.i64.max = 9223372036854775807 := by decide
 simp only [h1, h2, Bool.and_eq_true, decide_eq_true_eq]; exact h
theorem strK_of (x : List UInt8) (hx : x.length ≤ maxLen) : keyOf Tryz.prog 9 (.string (ba x)) = some (.string x) := by
 have h2 : (ba x).size ≤ maxLen := by rw [ba_size]; exact hx
 have h3 : keyOf Tryz.prog 9 (.string (ba x)) = mapKey Tryz.prog 9 (.string (ba x)) := by simp [keyOf, Tryz.underlying9]
 rw [h3]
 simp [mapKey, Tryz.underlying9, h2, ba_list]
noncomputable def strK : KeyL 9 (List UInt8) where
 kv := fun x => .string (ba x)
 fits := fun x => x.length ≤ maxLen
 kk := fun x => .string x
 keyed := Maps.string_keyed Tryz.underlying9
 of := strK_of
 inj := fun x y _ _ h => by injection h
end Go.Proofs.YthidbmeaccpjdaaGreatDoor
end
section
namespace Go.Proofs.YthidbmeaccpjdaaGreatDoor
open Go.RowKit
set_option linter.unusedVariables false
theorem par_info : (Tryz.prog.info? 30).map (fun i => (i.zero, i.size, i.bytes)) = some (some (.agg #[.string ByteArray.empty, .string ByteArray.empty]), 2, 32) := by kernel_rfl
def parCells (t : List UInt8 × List UInt8) : List Value := [.string (ba (t.1)), .string (ba (t.2))]
def ParOk (t : List UInt8 × List UInt8) : Prop := True
def Pars (w : World) (B : Nat) (A : Option Addr) (n : Nat) (ts : List (List UInt8 × List UInt8)) : Prop :=
 n = ts.length ∧ ∀ k (hk : k < ts.length), ∃ ad, A = some ad ∧ (ad.add (k * 2)).block < B ∧ w.cell? (ad.add (k * 2)) = some (.string (ba (ts[k].1))) ∧ w.cell? ⟨(ad.add (k * 2)).block, (ad.add (k * 2)).off + 1, none⟩ = some (.string (ba (ts[k].2))) ∧ ParOk ts[k]
section
variable {w w' : World} {B B' n : Nat} {A : Option Addr} {ts : List (List UInt8 × List UInt8)}
theorem Pars.below (h : Pars w B A n ts) (hb : Below B w w') : Pars w' B A n ts := by
 refine ⟨h.1, fun k hk => ?_⟩
 obtain ⟨ad, e, h1, c0, c1, h5⟩ := h.2 k hk
 exact ⟨ad, e, h1, (hb.cell h1).trans c0, (hb.cell (p := ⟨(ad.add (k * 2)).block, _, none⟩) h1).trans c1, h5⟩
theorem Pars.more (h : Pars w B A n ts) (hB : B ≤ B') : Pars w B' A n ts := by
 refine ⟨h.1, fun k hk => ?_⟩
 obtain ⟨ad, e, h1, h2⟩ := h.2 k hk
 exact ⟨ad, e, Nat.lt_of_lt_of_le h1 hB, h2⟩
theorem Pars.nil_ : Pars w B A 0 [] := ⟨rfl, fun k hk => by simp at hk⟩
theorem Pars.len (h : Pars w B A n ts) : ts.length = n := h.1.symm
theorem Pars.cutB {ad : Addr} (h : Pars w B (some ad) n ts) (k : Nat) (hk : k ≤ n) : Pars w B (some (ad.add (k * 2))) (n - k) (ts.drop k) := by
 refine ⟨by rw [List.length_drop, h.len], fun j hj => ?_⟩
 rw [List.length_drop] at hj
 obtain ⟨ad', e, r⟩ := h.2 (k + j) (by omega)
 injection e with e
 subst e
 refine ⟨_, rfl, ?_⟩
 rw [add_add', show k * 2 + j * 2 = (k + j) * 2 by omega, List.getElem_drop]
 exact r
end
structure OwnPars (w : World) (B : Nat) (v : Value) (ts : List (List UInt8 × List UInt8)) : Prop where
 row : w.ownsRow B 30 2 v ts.length (ts.flatMap parCells)
 each : ∀ t, t ∈ ts → ParOk t
theorem OwnPars.nil_ (w : World) (B : Nat) : OwnPars w B (.slice none 0 0) [] := ⟨World.ownsRow_nil _ _ _ _, fun t h => by cases h⟩
theorem OwnPars.below {w w' : World} {B : Nat} {v : Value} {ts : List (List UInt8 × List UInt8)} (h : OwnPars w B v ts) (hb : Below w.heap.size w w') : OwnPars w' B v ts :=
 ⟨ownsRow_block h.row fun b e => hb.block b (h.row.lt b e).2, h.each⟩
theorem OwnPars.block {w w' : World} {B : Nat} {v : Value} {ts : List (List UInt8 × List UInt8)} (h : OwnPars w B v ts) (hb : ∀ b, v.ownBlock = some b → w'.heap[b]? = w.heap[b]?) : OwnPars w' B v ts := ⟨ownsRow_block h.row hb, h.each⟩
theorem OwnPars.more {w : World} {B B' : Nat} {v : Value} {ts : List (List UInt8 × List UInt8)} (h : OwnPars w B v ts) (hB : B' ≤ B) : OwnPars w B' v ts := by
 obtain ⟨⟨h0, h1⟩, h2⟩ := h
 refine ⟨⟨h0, ?_⟩, h2⟩
 rcases h1 with h1 | ⟨g, cap, cur, e, hb, r⟩
 ·exact .inl h1
 ·exact .inr ⟨g, cap, cur, e, by omega, r⟩
theorem par_len (ts : List (List UInt8 × List UInt8)) : (ts.flatMap parCells).length = ts.length * 2 := by induction ts with | nil => rfl | cons a r ih => simp [parCells] at ih ⊢; omega
theorem par_get : ∀ (ts : List (List UInt8 × List UInt8)) j (hj : j < ts.length) i (hi : i < 2), (ts.flatMap parCells)[j * 2 + i]? = (parCells ts[j])[i]? := fun ts => by
 induction ts with
 | nil => intro j hj; simp at hj
 | cons a r ih =>
  intro j hj i hi
  cases j with
  | zero =>
   simp only [List.flatMap_cons, List.getElem_cons_zero, Nat.zero_mul, Nat.zero_add]
   rw [List.getElem?_append_left (by simp [parCells]; omega)]
  | succ j =>
   have := ih j (by simpa using hj) i hi
   simp only [List.flatMap_cons, List.getElem_cons_succ]
   rw [List.getElem?_append_right (by simp [parCells]; omega), show (j + 1) * 2 + i - (parCells a).length = j * 2 + i by simp [parCells]; omega]
   exact this
theorem par_addS (a : Addr) {i : Nat} (hi : i ≠ 0) : a.add i = ⟨a.block, a.off + i, none⟩ := by unfold Addr.add; rw [if_neg hi]
theorem OwnPars.reads {w : World} {B : Nat} {v : Value} {ts : List (List UInt8 × List UInt8)} (h : OwnPars w B v ts) : ∃ A c, v = .slice A ts.length c ∧ ts.length ≤ c ∧ c ≤ maxLen ∧ Pars w w.heap.size A ts.length ts := by
 have h0 := h.row
 rcases h0.2 with ⟨rfl, hn⟩ | ⟨g, cap, cur, rfl, hb, hg, q1, q2, q3⟩
 ·have : ts = [] := List.eq_nil_of_length_eq_zero hn
  subst this
  exact ⟨none, 0, rfl, Nat.le_refl _, by simp, Pars.nil_⟩
 ·refine ⟨_, cap, rfl, q1, q2, rfl, fun k hk => ?_⟩
  have hc : ∀ i u, i < 2 → (parCells ts[k])[i]? = some u → w.cell? ⟨g, k * 2 + i, none⟩ = some u := fun i u hi hu => by
   have := h0.cells (g := g) rfl (k * 2 + i) u (by rw [par_get ts k hk i hi]; exact hu)
   unfold Addr.add at this
   by_cases e0 : k * 2 + i = 0
   ·rw [if_pos e0] at this; rw [e0]; exact this
   ·rw [if_neg e0] at this; rw [Nat.zero_add] at this; exact this
  have e1 : (Addr.add ⟨g, 0, none⟩ (k * 2)) = ⟨g, k * 2, none⟩ := by
   unfold Addr.add
   split
   ·rename_i e0; rw [e0]
   ·rw [Nat.zero_add]
  refine ⟨⟨g, 0, none⟩, rfl, by rw [add_block]; exact heap_lt hg, ?_, ?_, h.each _ (List.getElem_mem hk)⟩
  ·rw [e1]; exact hc 0 _ (by omega) rfl
  ·rw [e1]; exact hc 1 _ (by omega) rfl
theorem par_one (l : List (List UInt8 × List UInt8)) : ∀ u ∈ l.flatMap parCells, u.oneCell' = true := by
 intro u hu
 obtain ⟨t, _, ht⟩ := List.mem_flatMap.1 hu
 simp only [parCells, List.mem_cons, List.not_mem_nil, or_false] at ht
 rcases ht with rfl | rfl <;> rfl
set_option maxRecDepth 100000 in
theorem run_pushPar {W : World} {B : Nat} {v : Value} {ts : List (List UInt8 × List UInt8)} {x0 : List UInt8} {x1 : List UInt8} (hT : OwnPars W B v ts) (hB : B ≤ W.heap.size) (hf : ParOk (⟨x0, x1⟩ : List UInt8 × List UInt8)) (hlen : ts.length ≤ 1000000000) (c : Nat) (ty : TypeId) :
  ∃ v' w', (Builtin.append_ #[22, 22] ty #[v, .slice (some ⟨W.heap.size, 0, none⟩) 1 c]).run Tryz.prog (W.alloc (.cells #[.string (ba x0), .string (ba x1)] 30)) = .ok v' w' ∧ OwnPars w' B v' (ts ++ [(⟨x0, x1⟩ : List UInt8 × List UInt8)]) ∧ W.grownBy w' v.ownBlock := by
 obtain ⟨i0, hi, hz0, hz1, hz2⟩ := info_parts par_info
 obtain ⟨v', w', hrun, h1, h2, _, h4⟩ := run_append_own_at (P := Tryz.prog) (W.alloc (.cells #[.string (ba x0), .string (ba x1)] 30)) B 22 ty 30 i0 _ 2 32 Tryz.underlying22 hi hz0 hz1 hz2 rfl (by omega) v ts.length (ts.flatMap parCells) (World.ownsRow.alloc hT.row _) ⟨W.heap.size, 0, none⟩ 1 c (parCells (⟨x0, x1⟩ : List UInt8 × List UInt8)) rfl (World.news_of_block (MapKept.heap_alloc W _).1) (fun u hu => par_one [(⟨x0, x1⟩ : List UInt8 × List UInt8)] u (by simpa using hu)) (by simp only [maxLen]; omega) (by omega) (by simp; omega)
 have h5 := World.grownBy_alloc W (.cells #[.string (ba x0), .string (ba x1)] 30) v.ownBlock
 refine ⟨v', w', hrun, ⟨by simpa using h1, fun t ht => ?_⟩, ⟨h2.os.trans h5.os, h2.tape.trans h5.tape, h2.output.trans h5.output, Nat.le_trans h5.size h2.size, fun k hk hne => (h2.block k (by simp; omega) hne).trans (h5.block k hk hne)⟩⟩
 rcases List.mem_append.1 ht with ht | ht
 ·exact hT.each t ht
 ·rw [List.mem_singleton] at ht; subst ht; exact hf
theorem wp_pushPar {o : Oper} {a : Act} {K : Act → World → Prop} {W : World} {Q : Exit → Act → World → Prop} {B : Nat} {v : Value} {ts : List (List UInt8 × List UInt8)} {x0 : List UInt8} {x1 : List UInt8} (hT : OwnPars W B v ts) (hB : B ≤ W.heap.size) (hf : ParOk (⟨x0, x1⟩ : List UInt8 × List UInt8))
  (hlen : ts.length ≤ 1000000000) (s y : Operand) (c : Nat)
  (ho : o.op = .call { callee := .builtin .append, args := #[s, y], argTypes := #[22, 22] }) (hs : a.eval s = v) (hx : a.eval y = .slice (some ⟨W.heap.size, 0, none⟩) 1 c)
  (h : ∀ v' w', OwnPars w' B v' (ts ++ [(⟨x0, x1⟩ : List UInt8 × List UInt8)]) → W.grownBy w' v.ownBlock → K (a.put o.dst v') w') : o.wp Tryz.prog a (W.alloc (.cells #[.string (ba x0), .string (ba x1)] 30)) K Q := by
 obtain ⟨v', w', hrun, h1, h2⟩ := run_pushPar hT hB hf hlen c o.type
 unfold Oper.wp execOp
 simp only [ho, resolve, invoke, builtin, Sem.run_bind, Sem.run_pure, Result.andThen_ok, List.map_toArray, List.map_cons, List.map_nil, hs, hx, hrun]
 exact h v' w' h1 h2
theorem wpList_pushPar {ops : Array Oper} {rest : List Oper} {o : Oper} {a : Act} {W : World} {Q : Exit → Act → World → Prop} {B : Nat} {v : Value} {ts : List (List UInt8 × List UInt8)} {x0 : List UInt8} {x1 : List UInt8} (hT : OwnPars W B v ts) (hB : B ≤ W.heap.size) (hf : ParOk (⟨x0, x1⟩ : List UInt8 × List UInt8))
  (hlen : ts.length ≤ 1000000000) (hgd : o.guard = none) (s y : Operand) (c : Nat)
  (ho : o.op = .call { callee := .builtin .append, args := #[s, y], argTypes := #[22, 22] }) (hs : a.eval s = v) (hx : a.eval y = .slice (some ⟨W.heap.size, 0, none⟩) 1 c)
  (h : ∀ v' w', OwnPars w' B v' (ts ++ [(⟨x0, x1⟩ : List UInt8 × List UInt8)]) → W.grownBy w' v.ownBlock → wpList Tryz.prog ops Q rest (a.put o.dst v') w') :
  wpList Tryz.prog ops Q (o :: rest) a (W.alloc (.cells #[.string (ba x0), .string (ba x1)] 30)) :=
 wpList_plain hgd fun _ hK => wp_pushPar hT hB hf hlen s y c ho hs hx fun v' w' h2 h3 => hK _ _ (h v' w' h2 h3)
theorem Pars.cells {w : World} {B m : Nat} {ad : Addr} {l : List (List UInt8 × List UInt8)} (h : Pars w B (some ad) m l) : ∀ j u, (l.flatMap parCells)[j]? = some u → w.cell? (ad.add j) = some u := by
 intro j u hu
 have hj : j < l.length * 2 := by have := (List.getElem?_eq_some_iff.1 hu).1; rw [par_len] at this; exact this
 obtain ⟨k, i, hi, rfl⟩ : ∃ k i, i < 2 ∧ j = k * 2 + i := ⟨j / 2, j % 2, by omega, by omega⟩
 have hk : k < l.length := by omega
 rw [par_get l k hk i hi] at hu
 obtain ⟨ad', e, _, c0, c1, _⟩ := h.2 k hk
 injection e with e
 subst e
 rw [← add_add']
 match i, hi with
 | 0, _ =>
  have hu' : Value.string (ba (l[k].1)) = u := Option.some.inj hu
  subst hu'
  have e0 : (ad.add (k * 2)).add 0 = ad.add (k * 2) := by unfold Addr.add; rfl
  rw [e0]; exact c0
 | 1, _ =>
  have hu' : Value.string (ba (l[k].2)) = u := Option.some.inj hu
  subst hu'
  rw [par_addS _ (by decide)]; exact c1
end Go.Proofs.YthidbmeaccpjdaaGreatDoor
end
namespace Go.Proofs.YthidbmeaccpjdaaGreatDoor
open Go.RowKit
set_option linter.unusedVariables false
set_option maxHeartbeats 4000000
def nEsc (l : List UInt8) : Nat := l.count 34 + l.count 92
theorem nEsc_take {l : List UInt8} {k : Nat} (hk : k < l.length) : nEsc (l.take (k + 1)) = nEsc (l.take k) + (if l[k] = 92 ∨ l[k] = 34 then 1 else 0) := by
 unfold nEsc
 rw [List.take_succ_eq_append_getElem hk, List.count_append, List.count_append, List.count_singleton, List.count_singleton]
 by_cases h1 : l[k] = 92
 ·rw [h1]
  simp
  omega
 ·by_cases h2 : l[k] = 34
  ·rw [h2]
   simp
   omega
  ·have e1 : (l[k] == 34) = false := by simpa using h2
   have e2 : (l[k] == 92) = false := by simpa using h1
   simp [e1, e2, h1, h2]
def ScanRel (w : World) (l : List UInt8) (r : List UInt8) (acc : List Tok) (v : Value) (wr : World) : Prop :=
 OwnToks wr w.heap.size v acc ∧ Below w.heap.size w wr ∧ acc ++ scanP r = scanP l ∧ acc.length + r.length ≤ l.length
def strOf : Value → ByteArray
 | .string s => s
 | _ => ⟨#[]⟩
theorem frontP_kind (l : List UInt8) : 0 ≤ (frontP l).1 ∧ (frontP l).1 ≤ 7 := by
 cases l with
 | nil => exact ⟨by decide, by decide⟩
 | cons c r =>
  rw [frontP_cons]
  unfold opens
  split
  ·exact ⟨by simp, by simp⟩
  ·split
   ·rename_i h
    have hk : 0 ≤ (‹Int› : Int) ∧ (‹Int› : Int) ≤ 7 := by
     revert h
     split
     ·intro h; injection h with h; injection h with h1 h2; subst h1; decide
     ·split
      ·intro h; injection h with h; injection h with h1 h2; subst h1; decide
      ·split
       ·intro h; injection h with h; injection h with h1 h2; subst h1; decide
       ·intro h; cases h
    split
    ·exact hk
    ·exact ⟨by simp, by simp⟩
   ·split
    ·exact ⟨by simp, by simp⟩
    ·split <;> exact ⟨by simp, by simp⟩
def BareRel (w : World) (ts : List Tok) (k : Nat) (v : Value) (wr : World) : Prop := OwnToks wr w.heap.size v (bareP (ts.take k)) ∧ Below w.heap.size w wr
theorem bare_step (ts : List Tok) (k : Nat) (hk : k < ts.length) : bareP (ts.take (k + 1)) = bareP (ts.take k) ++ bareP [ts[k]] := by
 rw [List.take_succ_eq_append_getElem hk]
 unfold bareP
 rw [List.filter_append]
end Go.Proofs.YthidbmeaccpjdaaGreatDoor
