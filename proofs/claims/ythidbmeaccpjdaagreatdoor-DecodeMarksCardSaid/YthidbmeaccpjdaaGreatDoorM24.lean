/- Layer 13: the contract of word (an encoded word; printed by gen_word. -/
import Derived.BigQuiet
import Derived.Deep.RegionHeld3
import Derived.Test.YthidbmeaccpjdaaGreatDoorM09
import Derived.Test.YthidbmeaccpjdaaGreatDoorM22
import Derived.Test.YthidbmeaccpjdaaGreatDoorM20
import Derived.Test.YthidbmeaccpjdaaGreatDoorM14
import Derived.Test.YthidbmeaccpjdaaGreatDoorM18
namespace Go.Proofs.YthidbmeaccpjdaaGreatDoor
open Go.RowKit
set_option linter.unusedVariables false
set_option maxHeartbeats 4000000
theorem seen_any (c : UInt8) (w : World) : Calls Tryz.prog 170 #[.int .u8 (c.toNat : Int)] w fun e w' => e = .returned (.bool (seenW c)) ∧ w' = w := by
 have HF := Lib.hid (show ∀ x : Int, (c.toNat : Int) = x → seenW c = (decide (32 < x) && decide (x < 127)) from fun x hx => by
  unfold seenW
  rw [Bool.eq_iff_iff]
  simp only [Bool.and_eq_true, decide_eq_true_iff, UInt8.lt_iff_toNat_lt]
  show (32 : Nat) < c.toNat ∧ c.toNat < (127 : Nat) ↔ _
  omega)
 obtain ⟨x, hx⟩ : ∃ x : Int, (c.toNat : Int) = x := ⟨_, rfl⟩
 have HFX := Lib.hid (HF.out x hx)
 rw [hx]
 clear hx HF
 go_enter Tryz.func170, Tryz.ntmps170
 go_wp2
 all_goals
  go_ret
  refine ⟨?_, rfl⟩
  rw [HFX.out]
  show Ending.returned (Value.bool _) = Ending.returned (Value.bool _)
  congr 2
  rw [Bool.eq_iff_iff]
  simp only [Bool.and_eq_true, decide_eq_true_iff]
  first | omega | (simp; omega)
def piecesP (c : UInt8) : Nat → List UInt8 → List (List UInt8)
 | 0, l => [l]
 | k + 1, l => match cutP c l with
  | none => [l]
  | some q => q.1 :: piecesP c k q.2
theorem splitB_pieces (c : UInt8) : ∀ (k : Nat) (l : List UInt8), Lib.splitB ⟨#[c]⟩ 0 k (ba l) = (piecesP c k l).map ba
 | 0, l => rfl
 | k + 1, l => by
  have hi : Lib.indexB (ba l) ⟨#[c]⟩ = findV c l := index_find c l
  unfold Lib.splitB piecesP
  rw [hi]
  unfold findV
  cases h : cutP c l with
  | none => rfl
  | some q =>
   obtain ⟨a, b⟩ := q
   have hl := (cutP_some h).1
   have hn : ((a.length : Int) == -1) = false := by simp
   show (if ((a.length : Int) == -1) = true then _ else _) = _
   rw [hn, if_neg (by decide)]
   have e1 : (ba l).extract 0 ((a.length : Int).toNat + 0) = ba a := by
    rw [Int.toNat_natCast, Nat.add_zero, ba_cut, hl]
    simp
   have e2 : (ba l).extract ((a.length : Int).toNat + (⟨#[c]⟩ : ByteArray).size) (ba l).size = ba b := by
    rw [Int.toNat_natCast, ba_drop, hl]
    show ba ((a ++ c :: b).drop (a.length + 1)) = _
    rw [show a ++ c :: b = (a ++ [c]) ++ b by simp, show a.length + 1 = (a ++ [c]).length by simp, List.drop_left]
   rw [e1, e2, splitB_pieces c k b]
   rfl
def SplitPost4 (w : World) (l : List UInt8) (e : Ending) (w' : World) : Prop := ∃ cap ps, ps = piecesP 63 (min 4 (l.length + 1) - 1) l ∧ e = .returned (.slice (some ⟨w.heap.size, 0, none⟩) ps.length cap) ∧ (∀ j x, ps[j]? = some x → w'.cell? ⟨w.heap.size, j, none⟩ = some (.string (ba x))) ∧ Below w.heap.size w w' ∧ w.heap.size < w'.heap.size
theorem splitn_any (l : List UInt8) (w : World) (hl : l.length ≤ 1000000000) (hT : Tabs w) :
  Calls Tryz.prog 169 #[.string (ba l), .string ⟨#[63]⟩, .int .i64 4] w (SplitPost4 w l) := by
 obtain ⟨m, hm⟩ := hT.max
 refine (Tryz.strings_SplitN (ba l) ⟨#[63]⟩ 4 m w (by rw [ba_size]; omega) hm (by decide) (by decide) (by decide)).mono ?_
 rintro e w' ⟨rfl, rfl⟩
 rw [ba_size, splitB_pieces]
 refine ⟨min 4 (l.length + 1), piecesP 63 (min 4 (l.length + 1) - 1) l, rfl, by rw [List.length_map], fun j x hj => ?_, (Below.refl _ _).alloc (Nat.le_refl _) _, by simp⟩
 have hc := (MapKept.heap_alloc w (.cells (Lib.cellsOf ((piecesP 63 (min 4 (l.length + 1) - 1) l).map ba) (min 4 (l.length + 1))) 9)).1
 rw [Lib.cell_of_heap hc]
 have hjl := (List.getElem?_eq_some_iff.1 hj).1
 unfold Lib.cellsOf
 simp only [List.getElem?_toArray, List.map_map]
 rw [List.getElem?_append_left (by simpa using hjl), List.getElem?_map, hj]
 rfl
theorem cut_shorter {c : UInt8} {l a b : List UInt8} (h : cutP c l = some (a, b)) : a.length + 1 + b.length = l.length := by
 rw [(cutP_some h).1]
 simp
 omega
theorem pieces4 (l : List UInt8) : (∃ a r1 b r2 c d, cutP 63 l = some (a, r1) ∧ cutP 63 r1 = some (b, r2) ∧ cutP 63 r2 = some (c, d) ∧ piecesP 63 (min 4 (l.length + 1) - 1) l = [a, b, c, d]) ∨
  ((piecesP 63 (min 4 (l.length + 1) - 1) l).length < 4 ∧ ∀ a r1 b r2, cutP 63 l = some (a, r1) → cutP 63 r1 = some (b, r2) → cutP 63 r2 = none) := by
 have len : ∀ k (x : List UInt8), (piecesP 63 k x).length ≤ k + 1 := by
  intro k
  induction k with
  | zero => intro x; exact Nat.le_refl _
  | succ k ih =>
   intro x
   unfold piecesP
   cases cutP 63 x with
   | none => simp
   | some q => have := ih q.2; simp; omega
 by_cases h3 : l.length < 3
 ·refine .inr ⟨by have := len (min 4 (l.length + 1) - 1) l; omega, fun a r1 b r2 h1 h2 => ?_⟩
  have e1 := cut_shorter h1
  have e2 := cut_shorter h2
  cases h3' : cutP 63 r2 with
  | none => rfl
  | some q =>
   have e3 := cut_shorter (a := q.1) (b := q.2) h3'
   omega
 ·have hk : min 4 (l.length + 1) - 1 = 3 := by omega
  rw [hk]
  cases h1 : cutP 63 l with
  | none =>
   refine .inr ⟨?_, fun a r1 b r2 h => by cases h⟩
   unfold piecesP
   rw [h1]
   simp
  | some q =>
   obtain ⟨a, r1⟩ := q
   have p1 : piecesP 63 3 l = a :: piecesP 63 2 r1 := by rw [piecesP, h1]
   rw [p1]
   cases h2 : cutP 63 r1 with
   | none =>
    have p2 : piecesP 63 2 r1 = [r1] := by rw [piecesP, h2]
    rw [p2]
    exact .inr ⟨by simp, fun a' r1' b r2 h h' => by injection h with h; injection h with _ h; subst h; rw [h2] at h'; cases h'⟩
   | some q =>
    obtain ⟨b, r2⟩ := q
    have p2 : piecesP 63 2 r1 = b :: piecesP 63 1 r2 := by rw [piecesP, h2]
    rw [p2]
    cases h3 : cutP 63 r2 with
    | none =>
     have p3 : piecesP 63 1 r2 = [r2] := by rw [piecesP, h3]
     rw [p3]
     refine .inr ⟨by simp, fun a' r1' b' r2' h h' => ?_⟩
     injection h with h; injection h with _ h; subst h
     rw [h2] at h'
     injection h' with h'; injection h' with _ h'; subst h'
     exact h3
    | some q =>
     obtain ⟨c, d⟩ := q
     have p3 : piecesP 63 1 r2 = [c, d] := by rw [piecesP, h3]; rfl
     rw [p3]
     exact .inl ⟨a, r1, b, r2, c, d, rfl, h2, h3, rfl⟩
theorem encW_pre {l : List UInt8} (h : ([61, 63] : List UInt8).isPrefixOf l = false) : encW l = none := by
 unfold encW
 match l, h with
 | [], _ => rfl
 | [_], _ => rfl
 | x :: y :: r, h =>
  have : ¬ (x = 61 ∧ y = 63) := fun e => by
   rw [e.1, e.2] at h
   simp [List.isPrefixOf] at h
  show (if x = 61 ∧ y = 63 then _ else none) = none
  rw [if_neg this]
theorem encW_few {r : List UInt8} (h : ∀ a r1 b r2, cutP 63 r = some (a, r1) → cutP 63 r1 = some (b, r2) → cutP 63 r2 = none) : encW (61 :: 63 :: r) = none := by
 show (if (61 : UInt8) = 61 ∧ (63 : UInt8) = 63 then _ else none) = none
 rw [if_pos ⟨rfl, rfl⟩]
 cases h1 : cutP 63 r with
 | none => rfl
 | some q =>
  obtain ⟨a, r1⟩ := q
  dsimp only
  cases h2 : cutP 63 r1 with
  | none => rfl
  | some q =>
   obtain ⟨b, r2⟩ := q
   dsimp only
   rw [h a r1 b r2 h1 h2]
   exact if_pos ⟨rfl, rfl⟩
theorem encW_four {r a r1 b r2 c d : List UInt8} (h1 : cutP 63 r = some (a, r1)) (h2 : cutP 63 r1 = some (b, r2)) (h3 : cutP 63 r2 = some (c, d)) :
  encW (61 :: 63 :: r) = if a = [] ∨ b.length ≠ 1 ∨ d.head? ≠ some 61 ∨ (61 : UInt8) ∈ a ∨ ((61 :: 63 :: r).take (a.length + c.length + 7)).all seenW = false then none else (wordBy b c).map fun t => (decodeSet a t, a.length + c.length + 7) := by
 show (if (61 : UInt8) = 61 ∧ (63 : UInt8) = 63 then _ else none) = _
 rw [if_pos ⟨rfl, rfl⟩, h1]
 dsimp only
 rw [h2]
 dsimp only
 rw [h3]
 exact if_pos ⟨rfl, rfl⟩
def WordPost (w : World) (o : Option (List UInt8 × Nat)) (e : Ending) (w' : World) : Prop := e = .returned (.tuple #[.string (ba ((o.getD ([], 0)).1)), .int .i64 ((o.getD ([], 0)).2 : Nat)]) ∧ Below w.heap.size w w'
theorem word_no {w w' : World} {o : Option (List UInt8 × Nat)} (h : o = none) (hb : Below w.heap.size w w') : WordPost w o (.returned (.tuple #[.string ⟨#[]⟩, .int .i64 0])) w' := by
 subst h
 exact ⟨rfl, hb⟩
def fnB64 : Value := .func (.func 37) #[] #[]
def fnQ : Value := .func (.func 171) #[] #[]
def wordF (b : List UInt8) : Option Value := if b = [66] ∨ b = [98] then some fnB64 else if b = [81] ∨ b = [113] then some fnQ else none
theorem wordF_upd (x : List UInt8) : wordF x = updK (updK (updK (updK (fun _ => none) [66] fnB64) [98] fnB64) [81] fnQ) [113] fnQ x := by
 unfold wordF updK
 by_cases h1 : x = [113]
 ·subst h1; simp
 by_cases h2 : x = [81]
 ·subst h2; simp
 by_cases h3 : x = [98]
 ·subst h3; simp
 by_cases h4 : x = [66]
 ·subst h4; simp
 simp [h1, h2, h3, h4]
theorem seen_stop {l : List UInt8} {k : Nat} (hk : k < l.length) (h : seenW l[k] = false) : l.all seenW = false := by
 rw [← Bool.not_eq_true, List.all_eq_true]
 intro ha
 have := ha _ (List.getElem_mem hk)
 rw [h] at this
 cases this
theorem seen_snoc {l : List UInt8} {k : Nat} (hk : k < l.length) (h : (l.take k).all seenW = true) (h2 : seenW l[k] = true) : (l.take (k + 1)).all seenW = true := by
 rw [List.take_succ_eq_append_getElem hk, List.all_append, h]
 simpa using h2
set_option maxRecDepth 100000 in
theorem encword_any (s : List UInt8) (w : World) (hl : s.length ≤ 500000000) (hT : Tabs w) :
  Calls Tryz.prog 102 #[.string (ba s)] w (WordPost w (encW s)) := by
 have HT := Lib.hid hT
 have HC1 := Lib.hid (show ∀ W, Calls Tryz.prog 110 #[.string (ba s), .string ⟨#[61, 63]⟩] W fun e w' => e = .returned (.tuple #[.string (ba (if ([61, 63] : List UInt8).isPrefixOf s = true then s.drop 2 else s)), .bool (([61, 63] : List UInt8).isPrefixOf s)]) ∧ w' = W from fun W => cutpre_any [61, 63] s W)
 clear hT
 cases hp : ([61, 63] : List UInt8).isPrefixOf s with
 | false =>
  have HF := Lib.hid (encW_pre hp)
  simp only [hp] at HC1
  clear hp
  go_enter Tryz.func102, Tryz.ntmps102
  go_wp2_with fail
  refine (HC1.out _).mono ?_
  rintro e w2 ⟨rfl, rfl⟩
  go_wp2
  go_ret2
  exact word_no HF.out (Below.refl _ _)
 | true =>
  obtain ⟨r, rfl⟩ : ∃ r, s = 61 :: 63 :: r := by
   have := List.isPrefixOf_iff_prefix.1 hp
   obtain ⟨r, h⟩ := this
   exact ⟨r, h.symm⟩
  simp only [hp, if_true, List.drop_succ_cons, List.drop_zero] at HC1
  have hrl : r.length ≤ 500000000 := by simp at hl; omega
  have HSP := Lib.hid (splitn_any r w (by omega) HT.out)
  unfold SplitPost4 at HSP
  clear hp
  rcases pieces4 r with ⟨a, r1, b, r2, c, d, h1, h2, h3, hps⟩ | ⟨hps, hno⟩
  ·have HE := Lib.hid (encW_four h1 h2 h3)
   have e1 := cut_shorter h1
   have e2 := cut_shorter h2
   have e3 := cut_shorter h3
   have HLL := Lib.hid (show a.length + 1 + (b.length + 1 + (c.length + 1 + d.length)) = r.length by omega)
   simp only [hps] at HSP
   clear h1 h2 h3 e1 e2 e3 hps
   obtain ⟨o, ho⟩ : ∃ o, encW (61 :: 63 :: r) = o := ⟨_, rfl⟩
   rw [ho] at HE ⊢
   clear ho
   have HAE := Lib.hid (show ∀ W, Calls Tryz.prog 72 #[.string (ba a), .string ⟨#[61]⟩] W fun e w' => e = .returned (.bool (decide ((61 : UInt8) ∈ a))) ∧ w' = W from fun W => by
    refine (Tryz.strings_Contains_one (ba a) 61 W).mono ?_
    rintro e w' ⟨rfl, rfl⟩
    refine ⟨?_, rfl⟩
    have e : decide (0 ≤ Lib.indexByte (ba a).data.toList 61) = decide ((61 : UInt8) ∈ a) := by
     rw [ba_list, indexV]
     cases hc : cutP 61 a with
     | none => rw [decide_eq_false (cutP_none.1 hc)]; rfl
     | some q =>
      have hm : (61 : UInt8) ∈ a := by rw [(cutP_some (a := q.1) (b := q.2) hc).1]; simp
      rw [decide_eq_true hm]
      show decide ((0 : Int) ≤ ((q.1.length : Nat) : Int)) = true
      exact decide_eq_true (by omega)
    rw [e])
   by_cases ha : a = []
   ·have HF := Lib.hid (show o = none by rw [HE.out, if_pos (.inl ha)])
    have ga1 : ((ba a).toList == []) = true := by rw [ba_toList, ha]; rfl
    have ga2 : (ba a).toList.isEmpty = true := by rw [ba_toList, ha]; rfl
    clear ha
    go_enter Tryz.func102, Tryz.ntmps102
    go_wp2_with fail
    refine (HC1.out _).mono ?_
    rintro e w2 ⟨rfl, rfl⟩
    go_wp2_with fail
    refine HSP.out.mono ?_
    rintro e w3 ⟨cap, ps, rfl, rfl, hcells, hb3, hlt3⟩
    have x0 := hcells 0 a rfl
    have x1 := hcells 1 b rfl
    have x2 := hcells 2 c rfl
    have x3 := hcells 3 d rfl
    have HB3 := Lib.hid hb3
    clear hcells hb3
    go_wp2
    go_ret2
    exact word_no HF.out HB3.out
   have ga1 : ((ba a).toList == []) = false := by rw [ba_toList]; cases a with | nil => exact absurd rfl ha | cons x y => rfl
   have ga2 : (ba a).toList.isEmpty = false := by rw [ba_toList]; cases a with | nil => exact absurd rfl ha | cons x y => rfl
   by_cases hb : b.length ≠ 1
   ·have HF := Lib.hid (show o = none by rw [HE.out, if_pos (.inr (.inl hb))])
    obtain ⟨Bz, hBz⟩ : ∃ x : Int, ((ba b).size : Int) = x := ⟨_, rfl⟩
    have gb0 : ¬ Bz = 1 := by rw [← hBz, ba_size]; omega
    have gb1 : (Bz == 1) = false := by rw [beq_eq_false_iff_ne]; exact gb0
    have gb2 : (Bz != 1) = true := by rw [bne_iff_ne]; exact gb0
    have gb3 : decide (Bz = 1) = false := decide_eq_false gb0
    clear hb
    go_enter Tryz.func102, Tryz.ntmps102
    go_wp2_with fail
    refine (HC1.out _).mono ?_
    rintro e w2 ⟨rfl, rfl⟩
    go_wp2_with fail
    refine HSP.out.mono ?_
    rintro e w3 ⟨cap, ps, rfl, rfl, hcells, hb3, hlt3⟩
    have x0 := hcells 0 a rfl
    have x1 := hcells 1 b rfl
    have x2 := hcells 2 c rfl
    have x3 := hcells 3 d rfl
    have HB3 := Lib.hid hb3
    clear hcells hb3
    go_wp2
    go_ret2
    exact word_no HF.out HB3.out
   have hb1 : b.length = 1 := Decidable.not_not.1 hb
   obtain ⟨Bz, hBz⟩ : ∃ x : Int, ((ba b).size : Int) = x := ⟨_, rfl⟩
   have gb0 : Bz = 1 := by rw [← hBz, ba_size, hb1]; rfl
   rw [gb0] at hBz
   clear gb0 Bz
   by_cases hd : d = []
   ·have HF := Lib.hid (show o = none by rw [HE.out, if_pos (.inr (.inr (.inl (by rw [hd]; simp))))])
    have gd1 : ((ba d).toList == []) = true := by rw [ba_toList, hd]; rfl
    have gd2 : (ba d).toList.isEmpty = true := by rw [ba_toList, hd]; rfl
    clear hd
    go_enter Tryz.func102, Tryz.ntmps102
    go_wp2_with fail
    refine (HC1.out _).mono ?_
    rintro e w2 ⟨rfl, rfl⟩
    go_wp2_with fail
    refine HSP.out.mono ?_
    rintro e w3 ⟨cap, ps, rfl, rfl, hcells, hb3, hlt3⟩
    have x0 := hcells 0 a rfl
    have x1 := hcells 1 b rfl
    have x2 := hcells 2 c rfl
    have x3 := hcells 3 d rfl
    have HB3 := Lib.hid hb3
    clear hcells hb3
    go_wp2
    go_ret2
    exact word_no HF.out HB3.out
   obtain ⟨z, d, rfl⟩ : ∃ z d', d = z :: d' := by cases d with | nil => exact absurd rfl hd | cons z d => exact ⟨z, d, rfl⟩
   have gd1 : ((ba (z :: d)).toList == []) = false := by rw [ba_toList]; rfl
   have gd2 : (ba (z :: d)).toList.isEmpty = false := by rw [ba_toList]; rfl
   obtain ⟨Z, hZ⟩ : ∃ Z : Int, (z.toNat : Int) = Z := ⟨_, rfl⟩
   have hgz : ∃ h : 0 < (ba (z :: d)).size, (((ba (z :: d))[0]'h).toNat : Int) = Z := ⟨by rw [ba_size]; simp, hZ⟩
   obtain ⟨hz0, hgz⟩ := hgz
   by_cases hz : z ≠ 61
   ·have HF := Lib.hid (show o = none by rw [HE.out, if_pos (.inr (.inr (.inl (by simpa using hz))))])
    have gz0 : ¬ Z = 61 := by rw [← hZ]; intro h; exact hz (UInt8.toNat_inj.1 (by have : (61 : UInt8).toNat = 61 := rfl; omega))
    have gz : (Z != 61) = true := by rw [bne_iff_ne]; exact gz0
    clear hz hZ
    go_enter Tryz.func102, Tryz.ntmps102
    go_wp2_with fail
    refine (HC1.out _).mono ?_
    rintro e w2 ⟨rfl, rfl⟩
    go_wp2_with fail
    refine HSP.out.mono ?_
    rintro e w3 ⟨cap, ps, rfl, rfl, hcells, hb3, hlt3⟩
    have x0 := hcells 0 a rfl
    have x1 := hcells 1 b rfl
    have x2 := hcells 2 c rfl
    have x3 := hcells 3 (z :: d) rfl
    have HB3 := Lib.hid hb3
    clear hcells hb3
    go_wp2
    go_ret2
    exact word_no HF.out HB3.out
   obtain rfl : z = 61 := Decidable.not_not.1 hz
   have gz0 : Z = 61 := hZ.symm
   rw [gz0] at hgz
   by_cases hin : (61 : UInt8) ∈ a
   ·have HF := Lib.hid (show o = none by rw [HE.out, if_pos (.inr (.inr (.inr (.inl hin))))])
    simp only [decide_eq_true hin] at HAE
    clear hin
    go_enter Tryz.func102, Tryz.ntmps102
    go_wp2_with fail
    refine (HC1.out _).mono ?_
    rintro e w2 ⟨rfl, rfl⟩
    go_wp2_with fail
    refine HSP.out.mono ?_
    rintro e w3 ⟨cap, ps, rfl, rfl, hcells, hb3, hlt3⟩
    have x0 := hcells 0 a rfl
    have x1 := hcells 1 b rfl
    have x2 := hcells 2 c rfl
    have x3 := hcells 3 (61 :: d) rfl
    have HB3 := Lib.hid hb3
    clear hcells hb3
    go_wp2_with fail
    refine (HAE.out _).mono ?_
    rintro e w4 ⟨rfl, hw⟩
    have hw2 := hw.symm
    subst hw2
    clear hw
    go_wp2
    go_ret2
    exact word_no HF.out HB3.out
   simp only [decide_eq_false hin] at HAE
   have HE2 := Lib.hid (show o = if ((61 :: 63 :: r).take (a.length + c.length + 7)).all seenW = false then none else (wordBy b c).map fun t => (decodeSet a t, a.length + c.length + 7) by
    rw [HE.out]
    by_cases hh : ((61 :: 63 :: r).take (a.length + c.length + 7)).all seenW = false
    ·rw [if_pos hh, if_pos (.inr (.inr (.inr (.inr hh))))]
    ·rw [if_neg hh, if_neg]
     rintro (h | h | h | h | h)
     ·exact ha h
     ·exact hb h
     ·exact h rfl
     ·exact hin h
     ·exact hh h)
   clear ha hb hin hz hZ hd HE gz0
   have hza : ((ba a).size : Int) = (a.length : Int) := by rw [ba_size]
   have hzc : ((ba c).size : Int) = (c.length : Int) := by rw [ba_size]
   have hai : (a.length : Int) ≤ 500000000 := by have := HLL.out; omega
   have ha0 : (0 : Int) ≤ (a.length : Int) := by omega
   have hci : (c.length : Int) ≤ 500000000 := by have := HLL.out; omega
   have hc0 : (0 : Int) ≤ (c.length : Int) := by omega
   obtain ⟨N, hN⟩ : ∃ N, a.length + c.length + 7 = N := ⟨_, rfl⟩
   have hNi : 2 + (a.length : Int) + 1 + 1 + 1 + (c.length : Int) + 2 = (N : Int) := by omega
   have HNL := Lib.hid (show N ≤ (61 :: 63 :: r).length by simp only [List.length_cons]; have := HLL.out; simp at this; omega)
   have hNs : (N : Int) ≤ ((ba (61 :: 63 :: r)).size : Int) := by rw [ba_size]; have := HNL.out; omega
   have hN0 : (0 : Int) ≤ (N : Int) := by omega
   have hNb : (N : Int) ≤ 2000000000 := by have := HNL.out; simp only [List.length_cons] at this; omega
   have hex : (ba (61 :: 63 :: r)).extract 0 N = ba ((61 :: 63 :: r).take N) := by rw [ba_cut, List.drop_zero]
   rw [hN] at HE2
   obtain ⟨t, ht⟩ : ∃ t, (61 :: 63 :: r).take N = t := ⟨_, rfl⟩
   have HTL := Lib.hid (show t.length = N by rw [← ht, List.length_take]; have := HNL.out; omega)
   rw [ht] at HE2 hex
   have htz : ((ba t).size : Int) = (N : Int) := by rw [ba_size, HTL.out]
   have HTZ := Lib.hid (show (ba t).size = N by rw [ba_size, HTL.out])
   have hcv := fun (W : World) (S : ByteArray) => run_bytes_of_string (P := Tryz.prog) W 9 62 5 S Tryz.underlying9 Tryz.underlying62 Tryz.underlying5
   have HR0 := Lib.hid (fun (W : World) (cap m : Nat) (hm : t.length ≤ m) => ByteRow.of_string W t cap 5 m hm)
   clear ht hN
   have HAL := Lib.hid (show a.length ≤ 500000000 by have := HLL.out; omega)
   have HCL := Lib.hid (show c.length ≤ 500000000 by have := HLL.out; omega)
   go_enter Tryz.func102, Tryz.ntmps102
   go_wp2_with fail
   refine (HC1.out _).mono ?_
   rintro e w2 ⟨rfl, rfl⟩
   go_wp2_with fail
   refine HSP.out.mono ?_
   rintro e w3 ⟨cap, ps, rfl, rfl, hcells, hb3, hlt3⟩
   have x0 := hcells 0 a rfl
   have x1 := hcells 1 b rfl
   have x2 := hcells 2 c rfl
   have x3 := hcells 3 (61 :: d) rfl
   have HB3 := Lib.hid hb3
   clear hcells hb3
   go_wp2_with fail
   refine (HAE.out _).mono ?_
   rintro e w4 ⟨rfl, hw⟩
   have hw2 := hw.symm
   subst hw2
   clear hw
   go_wp2_with fail
   go_quiet (fail)
   go_wp2_with fail
   obtain ⟨CC, hCC⟩ : ∃ C, grownCap (w3.drewN nq) (ba t).size 0 5 = C := ⟨_, rfl⟩
   have HCN := Lib.hid (show t.length ≤ (bytesRow (ba t) CC).size by rw [bytesRow_size (ba t) CC (by rw [← hCC]; have := grownCap_ge (w3.drewN nq) (ba t).size 0 5; omega), ← hCC, HTL.out, ← HTZ.out]; have := grownCap_ge (w3.drewN nq) (ba t).size 0 5; omega)
   rw [hCC]
   clear hCC hcv
   obtain ⟨W5, hW5⟩ : ∃ W, ((w3.drewN (nq + 1)).alloc (.cells (bytesRow (ba t) CC) 5 ((bytesRow (ba t) CC).size, (bytesRow (ba t) CC).size + 1))) = W := ⟨_, rfl⟩
   have HB35 := Lib.hid (show Below w3.heap.size w3 W5 by rw [← hW5]; exact (below_drewN (Below.refl _ _) _).alloc (Nat.le_refl _) _)
   have HR5 := Lib.hid (show ByteRow W5 w3.heap.size t by rw [← hW5]; exact HR0.out (w3.drewN (nq + 1)) CC _ HCN.out)
   rw [hW5]
   clear hW5 HR0 HCN
   go_loop [3, 8, 73] (fun q a i => ∃ (k : Nat) (y : Value), a = y ∧ q = .int .i64 (N : Int) ∧ k ≤ N ∧ i = .int .i64 (k : Int) ∧ Hid ((t.take k).all seenW = true)) (fun _ _ i => N - (intOf i).toNat)
   case atStart => exact ⟨0, _, rfl, rfl, Nat.zero_le _, rfl, Lib.hid rfl⟩
   case round =>
    obtain ⟨k, y, rfl, rfl, hk, rfl, HR⟩ := hrel
    by_cases hlt : k < N
    ·have hk2 : (k : Int) < (N : Int) := by omega
     have hk0 : (0 : Int) ≤ (k : Int) := by omega
     have hkl : k < t.length := by rw [HTL.out]; exact hlt
     have hcell := HR5.out.cell hkl
     have HST := Lib.hid (fun h => seen_stop (h := h) hkl)
     have HSN := Lib.hid (fun h => seen_snoc hkl HR.out h)
     obtain ⟨x, hx⟩ : ∃ x, t[k] = x := ⟨_, rfl⟩
     rw [hx] at hcell
     simp only [hx] at HST HSN
     have HSE := Lib.hid (fun W => seen_any x W)
     cases hs : seenW x with
     | false =>
      simp only [hs] at HSE
      have HF := Lib.hid (show o = none by rw [HE2.out, if_pos (HST.out hs)])
      clear hs hx hkl
      go_wp2_with fail
      refine (HSE.out _).mono ?_
      rintro e w6 ⟨rfl, hw⟩
      have hw2 := hw.symm
      subst hw2
      clear hw
      go_wp2
      go_ret2
      exact word_no HF.out (HB3.out.trans (HB35.out.mono HB3.out.size))
     | true =>
      simp only [hs] at HSE
      have HN := Lib.hid (HSN.out hs)
      clear hs hx hkl
      go_wp2_with fail
      refine (HSE.out _).mono ?_
      rintro e w6 ⟨rfl, hw⟩
      have hw2 := hw.symm
      subst hw2
      clear hw
      go_wp2
      go_round
      case rel => exact ⟨k + 1, _, rfl, rfl, by omega, by go_num, HN⟩
      case measure => simp [intOf] <;> omega
    ·obtain rfl : k = N := by omega
     have HE3 := Lib.hid (show o = (wordBy b c).map fun t => (decodeSet a t, k) by
      rw [HE2.out, if_neg]
      have := HR.out
      rw [List.take_of_length_le (by rw [HTL.out]; exact Nat.le_refl _)] at this
      rw [this]
      decide)
     have hs35 := HB35.out.size
     have hm0 := MapL.made strK W5
     obtain ⟨W1, hrun1, hm1, hg1⟩ := hm0.put Tryz.underlying101 (by decide) (x := [66]) (show [66].length ≤ maxLen by decide) fnB64
     obtain ⟨W2, hrun2, hm2, hg2⟩ := hm1.put Tryz.underlying101 (by decide) (x := [98]) (show [98].length ≤ maxLen by decide) fnB64
     obtain ⟨W3, hrun3, hm3, hg3⟩ := hm2.put Tryz.underlying101 (by decide) (x := [81]) (show [81].length ≤ maxLen by decide) fnQ
     obtain ⟨W4, hrun4, hm4, hg4⟩ := hm3.put Tryz.underlying101 (by decide) (x := [113]) (show [113].length ≤ maxLen by decide) fnQ
     have HB4 := Lib.hid (show Below W5.heap.size W5 W4 from by
      have hr : ∀ k : Nat, some W5.heap.size = some k → W5.heap.size ≤ k := fun k e => by injection e with e; omega
      have hb0 := (Below.refl W5.heap.size W5).alloc (Nat.le_refl _) (.map #[] 0)
      have hs0 : W5.heap.size ≤ (W5.alloc (.map #[] 0)).heap.size := by simp
      have hb1 := hb0.grown hg1 hs0 hr
      have hb2 := hb1.grown hg2 (by have := hg1.size; omega) hr
      have hb3 := hb2.grown hg3 (by have := hg1.size; have := hg2.size; omega) hr
      exact hb3.grown hg4 (by have := hg1.size; have := hg2.size; have := hg3.size; omega) hr)
     have hlk := (hm4.congr (g := wordF) fun x _ => wordF_upd x).look Tryz.underlying101 (zero_fn W4) (x := b) (show b.length ≤ maxLen by rw [hb1]; decide)
     unfold strK at hrun1 hrun2 hrun3 hrun4 hlk
     simp only [fnB64, fnQ, ba] at hrun1 hrun2 hrun3 hrun4
     dsimp only at hlk
     have HB34 := Lib.hid (show Below w3.heap.size w3 W4 from HB35.out.trans (HB4.out.mono hs35))
     have HLT3 := Lib.hid hlt3
     have HKE := Lib.hid (show ∀ V, Below w3.heap.size w3 V → V.cell? ⟨w2.heap.size, 0, none⟩ = some (.string (ba a)) ∧ V.cell? ⟨w2.heap.size, 2, none⟩ = some (.string (ba c)) from fun V hV => ⟨(hV.cell (p := ⟨w2.heap.size, 0, none⟩) HLT3.out).trans x0, (hV.cell (p := ⟨w2.heap.size, 2, none⟩) HLT3.out).trans x2⟩)
     have y1 := (HB34.out.cell (p := ⟨w2.heap.size, 1, none⟩) HLT3.out).trans x1
     have hfn := fn_nil
     have hfs := fn_some
     have hmm := @run_makeMap Tryz.prog
     clear hm0 hm1 hm2 hm3 hm4 hg1 hg2 hg3 hg4 x0 x1 x2 x3 HR hlt
     by_cases hB : b = [66] ∨ b = [98]
     ·have hwf : wordF b = some fnB64 := if_pos hB
      have HO := Lib.hid (show o = some (decodeSet a (unb64P c), k) by rw [HE3.out]; unfold wordBy; rw [if_pos hB]; rfl)
      rw [hwf] at hlk
      simp only [Option.getD_some, fnB64] at hlk
      clear hB hwf hfn
      go_wp2_with fail
      obtain ⟨W, hW⟩ : ∃ W, W4 = W := ⟨_, rfl⟩
      have HW := Lib.hid hW
      have HB6 := Lib.hid (show Below w3.heap.size w3 W by rw [← hW]; exact HB34.out)
      have hc6 := HKE.out W HB6.out
      obtain ⟨hc60, hc62⟩ := hc6
      rw [hW]
      clear hW hlk hrun1 hrun2 hrun3 hrun4 hmm
      go_region_held3 (fun w' => w'.cell? ⟨w2.heap.size, 0, none⟩ = some (.string (ba a)) ∧ w'.cell? ⟨w2.heap.size, 2, none⟩ = some (.string (ba c)))
       (first
        | exact HKE.out _ (HB6.out.drew)
        | exact HKE.out _ HV1.out
        | exact HKE.out _ HV2.out)
       (first
        | (go_simp; go_at_call 37; refine (unb64_any c W.drew (by have := HCL.out; omega) (HT.out.below (HB3.out.trans ((HB6.out.drew).mono HB3.out.size)))).mono ?_; rintro e v1 ⟨rfl, hb⟩; (
          have HV1 := Lib.hid (show Below w3.heap.size w3 v1 from (HB6.out.drew).trans (hb.mono HB6.out.size))
          clear hb))
        | (go_simp; go_at_call 43; refine (decode_any a (unb64P c) v1 (by have := HAL.out; omega) (Nat.le_trans (unb64P_len c) (by have := HCL.out; omega)) (HT.out.below (HB3.out.trans (HV1.out.mono HB3.out.size)))).mono ?_; rintro e v2 ⟨rfl, hb⟩; (
          have HV2 := Lib.hid (show Below w3.heap.size w3 v2 from HV1.out.trans (hb.mono HV1.out.size))
          clear hb)))
      all_goals
       go_wp2
       go_ret2
       unfold WordPost
       rw [HO.out]
       exact ⟨rfl, HB3.out.trans (HV2.out.mono HB3.out.size)⟩
     ·by_cases hQ : b = [81] ∨ b = [113]
      ·have hwf : wordF b = some fnQ := by unfold wordF; rw [if_neg hB, if_pos hQ]
       have HO := Lib.hid (show o = some (decodeSet a (unqQ c), k) by rw [HE3.out]; unfold wordBy; rw [if_neg hB, if_pos hQ]; rfl)
       rw [hwf] at hlk
       simp only [Option.getD_some, fnQ] at hlk
       clear hB hQ hwf hfn
       go_wp2_with fail
       obtain ⟨W, hW⟩ : ∃ W, W4 = W := ⟨_, rfl⟩
       have HW := Lib.hid hW
       have HB6 := Lib.hid (show Below w3.heap.size w3 W by rw [← hW]; exact HB34.out)
       have hc6 := HKE.out W HB6.out
       obtain ⟨hc60, hc62⟩ := hc6
       rw [hW]
       clear hW hlk hrun1 hrun2 hrun3 hrun4 hmm
       go_region_held3 (fun w' => w'.cell? ⟨w2.heap.size, 0, none⟩ = some (.string (ba a)) ∧ w'.cell? ⟨w2.heap.size, 2, none⟩ = some (.string (ba c)))
        (first
         | exact HKE.out _ (HB6.out.drew)
         | exact HKE.out _ HV1.out
         | exact HKE.out _ HV2.out)
        (first
         | (go_simp; go_at_call 171; refine (unq_any c W.drew (by have := HCL.out; omega) (HT.out.below (HB3.out.trans ((HB6.out.drew).mono HB3.out.size)))).mono ?_; rintro e v1 ⟨rfl, hb⟩; (
           have HV1 := Lib.hid (show Below w3.heap.size w3 v1 from (HB6.out.drew).trans (hb.mono HB6.out.size))
           clear hb))
         | (go_simp; go_at_call 43; refine (decode_any a (unqQ c) v1 (by have := HAL.out; omega) (Nat.le_trans (unqQ_len c) (by have := HCL.out; omega)) (HT.out.below (HB3.out.trans (HV1.out.mono HB3.out.size)))).mono ?_; rintro e v2 ⟨rfl, hb⟩; (
           have HV2 := Lib.hid (show Below w3.heap.size w3 v2 from HV1.out.trans (hb.mono HV1.out.size))
           clear hb)))
       all_goals
        go_wp2
        go_ret2
        unfold WordPost
        rw [HO.out]
        exact ⟨rfl, HB3.out.trans (HV2.out.mono HB3.out.size)⟩
      ·have hwf : wordF b = none := by unfold wordF; rw [if_neg hB, if_neg hQ]
       have HO := Lib.hid (show o = none by rw [HE3.out]; unfold wordBy; rw [if_neg hB, if_neg hQ]; rfl)
       rw [hwf] at hlk
       simp only [Option.getD_none] at hlk
       clear hB hQ hwf hfs
       go_wp2
       go_ret2
       exact word_no HO.out (HB3.out.trans (HB34.out.mono HB3.out.size))
  ·have HF := Lib.hid (encW_few hno)
   obtain ⟨o, ho⟩ : ∃ o, encW (61 :: 63 :: r) = o := ⟨_, rfl⟩
   rw [ho] at HF ⊢
   clear hno ho
   obtain ⟨P, hP⟩ : ∃ P, piecesP 63 (min 4 (r.length + 1) - 1) r = P := ⟨_, rfl⟩
   simp only [hP] at HSP
   rw [hP] at hps
   clear hP
   go_enter Tryz.func102, Tryz.ntmps102
   go_wp2_with fail
   refine (HC1.out _).mono ?_
   rintro e w2 ⟨rfl, rfl⟩
   go_wp2_with fail
   refine HSP.out.mono ?_
   rintro e w3 ⟨cap, ps, hps2, rfl, hcells, hb3, hlt3⟩
   subst hps2
   have HB3 := Lib.hid hb3
   obtain ⟨M, hM⟩ : ∃ M, ps.length = M := ⟨_, rfl⟩
   rw [hM] at hps ⊢
   have g4 : decide ((M : Int) < 4) = true := decide_eq_true (by omega)
   clear hcells hb3 hM
   go_wp2
   go_ret2
   exact word_no HF.out HB3.out
end Go.Proofs.YthidbmeaccpjdaaGreatDoor
