/- Layer 12, plain: a value written in extended sections is read back as a whole. -/
import Derived.Test.YtnpgnohlcphfnaaGreatDoorM08
import Derived.Test.YtnpgnohlcphfnaaGreatDoorM05
namespace Go.Proofs.YtnpgnohlcphfnaaGreatDoor
open Go.RowKit
set_option linter.unusedVariables false

def digT (k : Nat) : List UInt8 := if k < 10 then [UInt8.ofNat (48 + k)] else [49, UInt8.ofNat (38 + k)]
def secTag (k : Nat) : List UInt8 := if k = 0 then [85, 84, 70, 45, 56, 39, 101, 110, 39] else []
def encH (l : List UInt8) : List UInt8 := l.flatMap fun c => [37, hexD (c.toNat / 16), hexD (c.toNat % 16)]
def secName (k : Nat) : List UInt8 := [110, 42] ++ digT k ++ [42]
def secTxt (q : Nat × List UInt8) : List UInt8 := secName q.1 ++ 61 :: (secTag q.1 ++ encH q.2)
def rowsS (L : List (Nat × List UInt8)) : List UInt8 := L.flatMap fun q => 59 :: 32 :: secTxt q
theorem encH_facts (c : UInt8) : ([37, hexD (c.toNat / 16), hexD (c.toNat % 16)] : List UInt8).all runC = true ∧ unhexP [hexD (c.toNat / 16), hexD (c.toNat % 16)] = some [c] :=
  u8_all (fun c => ([37, hexD (c.toNat / 16), hexD (c.toNat % 16)] : List UInt8).all runC = true ∧ unhexP [hexD (c.toNat / 16), hexD (c.toNat % 16)] = some [c]) (by decide +kernel) c
theorem encH_run (l : List UInt8) : (encH l).all runC = true := by
  rw [List.all_eq_true]
  intro x hx
  obtain ⟨c, _, hx⟩ := List.mem_flatMap.1 hx
  exact List.all_eq_true.1 (encH_facts c).1 x hx
theorem open_encH : ∀ l : List UInt8, openP (encH l) = l
  | [] => rfl
  | c :: l => by
    show openP (37 :: hexD (c.toNat / 16) :: hexD (c.toNat % 16) :: encH l) = _
    rw [openP_take (hexD (c.toNat / 16) :: hexD (c.toNat % 16) :: encH l) [c] (by simp) (encH_facts c).2]
    show c :: openP (encH l) = _
    rw [open_encH l]
theorem sec_facts : ∀ k : Fin 11, whereP (secName k.val) = ⟨[110], (k.val : Int), true⟩ ∧ smallP (secName k.val) = secName k.val ∧ (secName k.val).all atomB = true ∧ (61 : UInt8) ∉ secName k.val ∧ (secTag k.val).all runC = true := by decide +kernel
theorem sec_rows (L : List (Nat × List UInt8)) (hL : ∀ q ∈ L, q.1 < 11) : ∃ R : List (List Tok), tokRows ([97, 47, 98] ++ rowsS L) = scanP [97, 47, 98] :: R ∧ R.map pairP = L.map fun q => (secName q.1, secTag q.1 ++ encH q.2) := by
  obtain ⟨h0, R, h1, h2⟩ := rows_gen (txt := secTxt) (out := fun q => (secName q.1, secTag q.1 ++ encH q.2)) L fun q hq => by
    obtain ⟨f1, f2, f3, f4, f5⟩ := sec_facts ⟨q.1, hL q hq⟩
    simp only at f1 f2 f3 f4 f5
    have hb : (secTag q.1 ++ encH q.2).all runC = true := by rw [List.all_append, f5, encH_run]; rfl
    have hr : (secTxt q).all runC = true := by
      unfold secTxt
      rw [List.all_append, List.all_cons, hb]
      have : (secName q.1).all runC = true := by
        rw [List.all_eq_true] at f3 ⊢
        intro c hc
        unfold runC
        rw [f3 c hc]
        rfl
      rw [this]
      decide
    refine ⟨scanP (secTxt q), fun x hx => (scan_kinds hr x hx).keep, ?_, ⟨110, _, rfl, by decide⟩, fun rest he => scan_run hr he.stop⟩
    unfold secTxt
    rw [pair_run f3 (by unfold secName; simp) f4 hb, f2]
  exact ⟨R, rows_first1 (by decide) h0 h1, h2⟩
def secOne (q : Nat × List UInt8) : One1 := ⟨⟨[110], (q.1 : Int), true⟩, secTag q.1 ++ encH q.2⟩
theorem sec_ones {R : List (List Tok)} {L : List (Nat × List UInt8)} (hL : ∀ q ∈ L, q.1 < 11) (hR : R.map pairP = L.map fun q => (secName q.1, secTag q.1 ++ encH q.2)) : onesP R = L.map secOne := by
  unfold onesP
  rw [hR]
  clear hR
  induction L with
  | nil => rfl
  | cons q L ih =>
    have hne : secName q.1 ≠ [] := by unfold secName; simp
    have hw := (sec_facts ⟨q.1, hL q (by simp)⟩).1
    simp only at hw
    rw [List.map_cons, List.map_cons, List.filterMap_cons]
    simp only [if_neg hne]
    rw [ih fun x hx => hL x (by simp [hx]), hw]
    rfl
/-- The sections of a value, in whatever order they stand. -/
structure Sects (cs : List (List UInt8)) (L : List (Nat × List UInt8)) : Prop where
  ne : cs ≠ []
  few : cs.length ≤ 11
  mem : ∀ k c, (k, c) ∈ L ↔ cs[k]? = some c
theorem Sects.lt {cs : List (List UInt8)} {L : List (Nat × List UInt8)} (h : Sects cs L) : ∀ q ∈ L, q.1 < 11 := fun q hq => by
  have h1 := (h.mem q.1 q.2).1 hq
  have h2 := (List.getElem?_eq_some_iff.1 h1).1
  have := h.few
  omega
theorem Sects.first {cs : List (List UInt8)} {L : List (Nat × List UInt8)} (h : Sects cs L) (k : Nat) : firstP (L.map secOne) [110] (k : Int) = (cs[k]?).map fun c => secOne (k, c) := by
  unfold firstP
  cases hf : (L.map secOne).find? (fun x => decide (x.at_.name = [110]) && decide (x.at_.section_ = (k : Int))) with
  | none =>
    cases hc : cs[k]? with
    | none => rfl
    | some c =>
      exfalso
      have hm : secOne (k, c) ∈ L.map secOne := List.mem_map.2 ⟨(k, c), (h.mem k c).2 hc, rfl⟩
      have := List.find?_eq_none.1 hf (secOne (k, c)) hm
      exact this (by show (decide (([110] : List UInt8) = [110]) && decide ((k : Int) = (k : Int))) = true; simp)
  | some x =>
    have hp := List.find?_some hf
    obtain ⟨q, hq, rfl⟩ := List.mem_map.1 (List.mem_of_find?_eq_some hf)
    have hk : q.1 = k := by
      have : (decide (([110] : List UInt8) = [110]) && decide ((q.1 : Int) = (k : Int))) = true := hp
      rw [Bool.and_eq_true, decide_eq_true_iff, decide_eq_true_iff] at this
      omega
    have := (h.mem q.1 q.2).1 hq
    rw [hk] at this
    rw [this]
    show some (secOne q) = some (secOne (k, q.2))
    rw [← hk]
theorem Sects.rest {cs : List (List UInt8)} {L : List (Nat × List UInt8)} (h : Sects cs L) : ∀ (f k : Nat), 0 < k → cs.length ≤ k + f → restG (L.map secOne) [110] f (k : Int) = (cs.drop k).flatten
  | 0, k, _, hl => by
    rw [List.drop_of_length_le (by omega)]
    rfl
  | f + 1, k, hk, hl => by
    unfold restG
    rw [h.first k]
    cases hc : cs[k]? with
    | none =>
      rw [List.drop_of_length_le (List.getElem?_eq_none_iff.1 hc)]
      rfl
    | some c =>
      obtain ⟨h1, h2⟩ := List.getElem?_eq_some_iff.1 hc
      have ih := Sects.rest h f (k + 1) (by omega) (by omega)
      rw [List.drop_eq_getElem_cons h1, h2, List.flatten_cons, ← ih]
      show (if true = true then openP (secTag k ++ encH c) else _) ++ restG (L.map secOne) [110] f ((k : Int) + 1) = _
      rw [if_pos rfl, show secTag k = [] from if_neg (by omega), List.nil_append, open_encH]
      rfl
theorem split_tag (e : List UInt8) : splitP (secTag 0 ++ e) = ([85, 84, 70, 45, 56], e) := by
  have h1 : cutP 39 (secTag 0 ++ e) = some ([85, 84, 70, 45, 56], [101, 110] ++ 39 :: e) := cut_app (a := [85, 84, 70, 45, 56]) (b := [101, 110] ++ 39 :: e) (by decide)
  have h2 : cutP 39 ([101, 110] ++ 39 :: e) = some ([101, 110], e) := cut_app (a := [101, 110]) (by decide)
  unfold splitP
  simp only [h1, h2]
theorem Sects.value {cs : List (List UInt8)} {L : List (Nat × List UInt8)} (h : Sects cs L) : valueP (L.map secOne) [110] = some (repairP cs.flatten) := by
  obtain ⟨c, cs', rfl⟩ : ∃ c r, cs = c :: r := by
    cases cs with
    | nil => exact absurd rfl h.ne
    | cons c r => exact ⟨c, r, rfl⟩
  have h0 := h.first 0
  have hr := h.rest 63 1 (by omega) (by have := h.few; omega)
  have h0' : firstP (L.map secOne) [110] 0 = some (secOne (0, c)) := h0
  unfold valueP
  rw [h0']
  show (if true = true then some (meantP (splitP (secTag 0 ++ encH c)).1 (openP (splitP (secTag 0 ++ encH c)).2 ++ restG (L.map secOne) [110] 63 1)) else _) = _
  have hr' : restG (L.map secOne) [110] 63 1 = cs'.flatten := hr
  rw [if_pos rfl, split_tag, open_encH, hr']
  show some (meantP [85, 84, 70, 45, 56] (c ++ cs'.flatten)) = _
  unfold meantP
  rw [if_neg (by simp)]
  unfold decodeSet
  rw [show setOf (smallP [85, 84, 70, 45, 56]) = 2 by decide]
  rfl
theorem sec_names : ∀ (L : List (Nat × List UInt8)), (L.map secOne).foldl (fun a x => if x.at_.name ∈ a then a else a ++ [x.at_.name]) [[110]] = [[110]]
  | [] => rfl
  | q :: L => by
    rw [List.map_cons, List.foldl_cons]
    have : (if (secOne q).at_.name ∈ ([[110]] : List (List UInt8)) then [[110]] else [[110]] ++ [(secOne q).at_.name]) = [[110]] := if_pos (by show ([110] : List UInt8) ∈ [[110]]; simp)
    rw [this]
    exact sec_names L
/-- A value in sections is read back, repaired. -/
theorem sect_parse {cs : List (List UInt8)} {L : List (Nat × List UInt8)} (h : Sects cs L) : parseT ([97, 47, 98] ++ rowsS L) = (⟨[97], [98], [([110], repairP cs.flatten)]⟩, true) := by
  obtain ⟨R, h1, h2⟩ := sec_rows L h.lt
  have hp : paramsP R = [([110], repairP cs.flatten)] := by
    unfold paramsP
    rw [sec_ones h.lt h2]
    have hn : namesP (L.map secOne) = [[110]] := by
      have hne : L ≠ [] := by
        obtain ⟨c, cs', e⟩ : ∃ c r, cs = c :: r := by
          cases hq : cs with
          | nil => exact absurd hq h.ne
          | cons c r => exact ⟨c, r, rfl⟩
        intro e2
        have := (h.mem 0 c).2 (by rw [e]; rfl)
        rw [e2] at this
        cases this
      cases L with
      | nil => exact absurd rfl hne
      | cons q L =>
        unfold namesP
        rw [List.map_cons, List.foldl_cons]
        exact sec_names L
    rw [hn]
    rw [List.filterMap_cons]
    have hv : ((valueP (L.map secOne) [110]).map fun v => (([110] : List UInt8), v)) = some ([110], repairP cs.flatten) := by rw [h.value]; rfl
    rw [hv]
    rfl
  unfold parseT
  rw [h1]
  show (match cutP 47 (joinP (scanP [97, 47, 98])) with
    | none => ((⟨[116, 101, 120, 116], [112, 108, 97, 105, 110], []⟩ : Typ), false)
    | some q => if isWord q.1 = true ∧ isWord q.2 = true then (⟨smallP q.1, smallP q.2, paramsP R⟩, true) else (⟨[116, 101, 120, 116], [112, 108, 97, 105, 110], []⟩, false)) = _
  rw [join_scan, show cutP 47 [97, 47, 98] = some ([97], [98]) by decide]
  show (if isWord [97] = true ∧ isWord [98] = true then ((⟨smallP [97], smallP [98], paramsP R⟩ : Typ), true) else _) = _
  rw [if_pos (by decide), hp]
  rfl
end Go.Proofs.YtnpgnohlcphfnaaGreatDoor
