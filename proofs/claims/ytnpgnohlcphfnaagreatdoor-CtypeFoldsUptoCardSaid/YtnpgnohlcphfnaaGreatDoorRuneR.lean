/- Layer 4, plain: the reference's way to read a code point meets the library's. -/
import Derived.Test.YtnpgnohlcphfnaaGreatDoorM01
namespace Go.Proofs.YtnpgnohlcphfnaaGreatDoor
set_option linter.unusedVariables false

/-- The number that the reference reads out of so many bytes. -/
def nR (l : List UInt8) : Nat → Int
  | 1 => bt l 0
  | 2 => ((bt l 0 : Int) - 192) * 64 + bt l 1 - 128
  | 3 => (((bt l 0 : Int) - 224) * 64 + bt l 1 - 128) * 64 + bt l 2 - 128
  | 4 => ((((bt l 0 : Int) - 240) * 64 + bt l 1 - 128) * 64 + bt l 2 - 128) * 64 + bt l 3 - 128
  | _ => 0
def signR (n : Int) : Bool := decide (0 ≤ n ∧ n ≤ 1114111 ∧ (n < 55296 ∨ 57343 < n))
def okR (l : List UInt8) (m : Nat) : Bool := decide (m ≤ l.length) && signR (nR l m) && decide (Lib.encodeRune (nR l m) = l.take m)
def firstR (l : List UInt8) : Nat × Nat × Bool :=
  if okR l 1 = true then ((nR l 1).toNat, 1, true) else if okR l 2 = true then ((nR l 2).toNat, 2, true)
  else if okR l 3 = true then ((nR l 3).toNat, 3, true) else if okR l 4 = true then ((nR l 4).toNat, 4, true) else (65533, 1, false)
theorem take_eq_iff {l : List UInt8} {z : List Int} (hb : ∀ x ∈ z, 0 ≤ x ∧ x < 256) (h : z.length ≤ l.length) : z.map (fun x => x.toNat.toUInt8) = l.take z.length ↔ ∀ i (hi : i < z.length), z[i] = (bt l i : Int) := by
  constructor
  · intro e i hi
    have h1 : (z.map (fun x => x.toNat.toUInt8))[i]? = (l.take z.length)[i]? := by rw [e]
    rw [List.getElem?_map, List.getElem?_eq_getElem hi, List.getElem?_take, if_pos hi, List.getElem?_eq_getElem (by omega)] at h1
    have h2 : (z[i]).toNat.toUInt8 = l[i] := by simpa using h1
    have h3 := hb _ (List.getElem_mem hi)
    unfold bt
    rw [List.getD_eq_getElem?_getD, List.getElem?_eq_getElem (show i < l.length by omega)]
    show _ = ((l[i]).toNat : Int)
    rw [← h2]
    have : ((z[i]).toNat.toUInt8).toNat = (z[i]).toNat := by
      show (UInt8.ofNat _).toNat = _
      rw [UInt8.toNat_ofNat']; omega
    rw [this]; omega
  · intro hz
    apply List.ext_getElem
    · rw [List.length_map, List.length_take]; omega
    · intro i h1 h2
      rw [List.length_map] at h1
      rw [List.getElem_map, List.getElem_take]
      have h3 := hz i h1
      unfold bt at h3
      rw [List.getD_eq_getElem?_getD, List.getElem?_eq_getElem (show i < l.length by omega)] at h3
      have h4 : z[i] = ((l[i]).toNat : Int) := h3
      rw [h4]
      show (UInt8.ofNat ((l[i]).toNat)) = l[i]
      simp
theorem okR_one {l : List UInt8} (h : 1 ≤ l.length) : okR l 1 = true ↔ bt l 0 < 128 := by
  unfold okR signR
  rw [Bool.and_eq_true, Bool.and_eq_true, decide_eq_true_iff, decide_eq_true_iff, decide_eq_true_iff]
  have hb := bt_lt l 0
  constructor
  · rintro ⟨⟨_, h1⟩, h2⟩
    have h3 := congrArg List.length h2
    unfold Lib.encodeRune at h3
    rw [List.length_map, List.length_take] at h3
    apply Classical.byContradiction
    intro hn
    have h4 : nR l 1 = bt l 0 := rfl
    rw [Lib.encodeRuneZ_two (by rw [h4]; omega) (by rw [h4]; omega)] at h3
    simp at h3
    omega
  · intro h1
    have h4 : nR l 1 = bt l 0 := rfl
    refine ⟨⟨h, by rw [h4]; omega⟩, ?_⟩
    unfold Lib.encodeRune
    rw [Lib.encodeRuneZ_one (by rw [h4]; omega) (by rw [h4]; omega)]
    exact (take_eq_iff (l := l) (z := [nR l 1]) (by simp [h4]; omega) h).2 (fun i hi => by
      have : i = 0 := by simpa using hi
      subst this; rfl)
theorem okR_two {l : List UInt8} (h : 2 ≤ l.length) : okR l 2 = true ↔ (194 ≤ bt l 0 ∧ bt l 0 < 224) ∧ (128 ≤ bt l 1 ∧ bt l 1 < 192) := by
  have h4 : nR l 2 = ((bt l 0 : Int) - 192) * 64 + bt l 1 - 128 := rfl
  unfold okR signR
  rw [Bool.and_eq_true, Bool.and_eq_true, decide_eq_true_iff, decide_eq_true_iff, decide_eq_true_iff]
  have hb := bt_lt l 0
  have hb1 := bt_lt l 1
  constructor
  · rintro ⟨⟨_, h1⟩, h2⟩
    have h3 := congrArg List.length h2
    have h5 := h2
    unfold Lib.encodeRune at h3 h5
    rw [List.length_map, List.length_take] at h3
    by_cases c1 : nR l 2 ≤ 127
    · rw [Lib.encodeRuneZ_one h1.1 c1] at h3; simp at h3; omega
    · by_cases c2 : nR l 2 ≤ 2047
      · rw [Lib.encodeRuneZ_two (by omega) c2] at h5
        have h6 := (take_eq_iff (l := l) (z := [192 + nR l 2 / 64, 128 + nR l 2 % 64]) (by simp; omega) h).1 h5
        have e0 := h6 0 (by simp)
        have e1 := h6 1 (by simp)
        simp at e0 e1
        omega
      · by_cases c3 : nR l 2 ≤ 65535
        · rw [Lib.encodeRuneZ_three (by omega)] at h3; simp at h3; omega
        · rw [Lib.encodeRuneZ_four (by omega) h1.2.1] at h3; simp at h3; omega
  · rintro ⟨h1, h2⟩
    refine ⟨⟨h, by rw [h4]; omega⟩, ?_⟩
    unfold Lib.encodeRune
    rw [Lib.encodeRuneZ_two (by rw [h4]; omega) (by rw [h4]; omega)]
    refine (take_eq_iff (l := l) (z := [192 + nR l 2 / 64, 128 + nR l 2 % 64]) (by simp; omega) h).2 (fun i hi => ?_)
    match i, hi with
    | 0, _ => show 192 + nR l 2 / 64 = _; rw [h4]; omega
    | 1, _ => show 128 + nR l 2 % 64 = _; rw [h4]; omega
theorem okR_three {l : List UInt8} (h : 3 ≤ l.length) : okR l 3 = true ↔ (224 ≤ bt l 0 ∧ bt l 0 < 240) ∧ (128 ≤ bt l 1 ∧ bt l 1 < 192) ∧ (128 ≤ bt l 2 ∧ bt l 2 < 192) ∧ (bt l 0 = 224 → 160 ≤ bt l 1) ∧ (bt l 0 = 237 → bt l 1 < 160) := by
  have h4 : nR l 3 = (((bt l 0 : Int) - 224) * 64 + bt l 1 - 128) * 64 + bt l 2 - 128 := rfl
  unfold okR signR
  rw [Bool.and_eq_true, Bool.and_eq_true, decide_eq_true_iff, decide_eq_true_iff, decide_eq_true_iff]
  have hb := bt_lt l 0
  have hb1 := bt_lt l 1
  have hb2 := bt_lt l 2
  constructor
  · rintro ⟨⟨_, h1⟩, h2⟩
    have h3 := congrArg List.length h2
    have h5 := h2
    unfold Lib.encodeRune at h3 h5
    rw [List.length_map, List.length_take] at h3
    by_cases c1 : nR l 3 ≤ 127
    · rw [Lib.encodeRuneZ_one h1.1 c1] at h3; simp at h3; omega
    · by_cases c2 : nR l 3 ≤ 2047
      · rw [Lib.encodeRuneZ_two (by omega) c2] at h3; simp at h3; omega
      · by_cases c3 : nR l 3 ≤ 65535
        · rw [Lib.encodeRuneZ_three (by omega)] at h5
          have h6 := (take_eq_iff (l := l) (z := [224 + nR l 3 / 4096, 128 + nR l 3 / 64 % 64, 128 + nR l 3 % 64]) (by simp; omega) h).1 h5
          have e0 := h6 0 (by simp)
          have e1 := h6 1 (by simp)
          have e2 := h6 2 (by simp)
          simp at e0 e1 e2
          omega
        · rw [Lib.encodeRuneZ_four (by omega) h1.2.1] at h3; simp at h3; omega
  · rintro ⟨h1, h2, h3, h5, h6⟩
    have hn : 2048 ≤ nR l 3 ∧ nR l 3 ≤ 65535 ∧ (nR l 3 < 55296 ∨ 57343 < nR l 3) := by rw [h4]; omega
    refine ⟨⟨h, by omega⟩, ?_⟩
    unfold Lib.encodeRune
    rw [Lib.encodeRuneZ_three (by omega)]
    refine (take_eq_iff (l := l) (z := [224 + nR l 3 / 4096, 128 + nR l 3 / 64 % 64, 128 + nR l 3 % 64]) (by simp; omega) h).2 (fun i hi => ?_)
    match i, hi with
    | 0, _ => show 224 + nR l 3 / 4096 = _; rw [h4]; omega
    | 1, _ => show 128 + nR l 3 / 64 % 64 = _; rw [h4]; omega
    | 2, _ => show 128 + nR l 3 % 64 = _; rw [h4]; omega
theorem okR_four {l : List UInt8} (h : 4 ≤ l.length) : okR l 4 = true ↔ (240 ≤ bt l 0 ∧ bt l 0 < 245) ∧ (128 ≤ bt l 1 ∧ bt l 1 < 192) ∧ (128 ≤ bt l 2 ∧ bt l 2 < 192) ∧ (128 ≤ bt l 3 ∧ bt l 3 < 192) ∧ (bt l 0 = 240 → 144 ≤ bt l 1) ∧ (bt l 0 = 244 → bt l 1 < 144) := by
  have h4 : nR l 4 = ((((bt l 0 : Int) - 240) * 64 + bt l 1 - 128) * 64 + bt l 2 - 128) * 64 + bt l 3 - 128 := rfl
  unfold okR signR
  rw [Bool.and_eq_true, Bool.and_eq_true, decide_eq_true_iff, decide_eq_true_iff, decide_eq_true_iff]
  have hb := bt_lt l 0
  have hb1 := bt_lt l 1
  have hb2 := bt_lt l 2
  have hb3 := bt_lt l 3
  constructor
  · rintro ⟨⟨_, h1⟩, h2⟩
    have h3 := congrArg List.length h2
    have h5 := h2
    unfold Lib.encodeRune at h3 h5
    rw [List.length_map, List.length_take] at h3
    by_cases c1 : nR l 4 ≤ 127
    · rw [Lib.encodeRuneZ_one h1.1 c1] at h3; simp at h3; omega
    · by_cases c2 : nR l 4 ≤ 2047
      · rw [Lib.encodeRuneZ_two (by omega) c2] at h3; simp at h3; omega
      · by_cases c3 : nR l 4 ≤ 65535
        · rw [Lib.encodeRuneZ_three (by omega)] at h3; simp at h3; omega
        · rw [Lib.encodeRuneZ_four (by omega) h1.2.1] at h5
          have h6 := (take_eq_iff (l := l) (z := [240 + nR l 4 / 262144, 128 + nR l 4 / 4096 % 64, 128 + nR l 4 / 64 % 64, 128 + nR l 4 % 64]) (by simp; omega) h).1 h5
          have e0 := h6 0 (by simp)
          have e1 := h6 1 (by simp)
          have e2 := h6 2 (by simp)
          have e3 := h6 3 (by simp)
          simp at e0 e1 e2 e3
          omega
  · rintro ⟨h1, h2, h3, h5, h6, h7⟩
    have hn : 65536 ≤ nR l 4 ∧ nR l 4 ≤ 1114111 := by rw [h4]; omega
    refine ⟨⟨h, by omega⟩, ?_⟩
    unfold Lib.encodeRune
    rw [Lib.encodeRuneZ_four (by omega) (by omega)]
    refine (take_eq_iff (l := l) (z := [240 + nR l 4 / 262144, 128 + nR l 4 / 4096 % 64, 128 + nR l 4 / 64 % 64, 128 + nR l 4 % 64]) (by simp; omega) h).2 (fun i hi => ?_)
    match i, hi with
    | 0, _ => show 240 + nR l 4 / 262144 = _; rw [h4]; omega
    | 1, _ => show 128 + nR l 4 / 4096 % 64 = _; rw [h4]; omega
    | 2, _ => show 128 + nR l 4 / 64 % 64 = _; rw [h4]; omega
    | 3, _ => show 128 + nR l 4 % 64 = _; rw [h4]; omega
theorem okR_short {l : List UInt8} {m : Nat} (h : l.length < m) : okR l m = false := by
  unfold okR
  rw [decide_eq_false (by omega), Bool.false_and, Bool.false_and]
theorem uN_of_two {l : List UInt8} (h : 2 ≤ l.length) (hk : okR l 2 = true) : (uN l).2 = 2 := by
  have h1 := (okR_two h).1 hk
  unfold uN Lib.decodeN
  rw [if_neg (by omega), if_pos (by omega), if_pos (by omega)]
theorem uN_of_three {l : List UInt8} (h : 3 ≤ l.length) (hk : okR l 3 = true) : (uN l).2 = 3 := by
  have h1 := (okR_three h).1 hk
  unfold uN Lib.decodeN
  rw [if_neg (by omega), if_neg (by omega), if_pos (by omega), if_pos (by omega)]
theorem uN_of_four {l : List UInt8} (h : 4 ≤ l.length) (hk : okR l 4 = true) : (uN l).2 = 4 := by
  have h1 := (okR_four h).1 hk
  unfold uN Lib.decodeN
  rw [if_neg (by omega), if_neg (by omega), if_neg (by omega), if_pos (by omega), if_pos (by omega)]
theorem okR_le {l : List UInt8} {m : Nat} (h : okR l m = true) : m ≤ l.length := by
  apply Classical.byContradiction
  intro hn
  rw [okR_short (by omega)] at h; cases h
/-- The reference reads what the library reads. -/
theorem firstR_eq {l : List UInt8} (h : l ≠ []) : firstR l = ((uN l).1, (uN l).2, !(decide ((uN l).1 = 65533 ∧ (uN l).2 = 1))) := by
  have hl : 1 ≤ l.length := by cases l with | nil => exact absurd rfl h | cons a r => simp
  have hb := bt_lt l 0
  rcases uN_cases l h with ⟨h1, (⟨h2, h3⟩ | ⟨h2, h3⟩)⟩ | ⟨h1, h2, h3, h4, h5, h6⟩ | ⟨h1, h2, h3, h4, h5, h6, h7, h8⟩ | ⟨h1, h2, h3, h4, h5, h6, h7, h8, h9⟩
  · have e1 : okR l 1 = true := (okR_one hl).2 h2
    unfold firstR
    rw [if_pos e1, h1, h3, decide_eq_false (by omega)]
    show (((bt l 0 : Nat) : Int).toNat, 1, true) = _
    simp
  · have e1 : ¬ okR l 1 = true := fun e => by have := (okR_one hl).1 e; omega
    have e2 : ¬ okR l 2 = true := fun e => by have := uN_of_two (okR_le e) e; omega
    have e3 : ¬ okR l 3 = true := fun e => by have := uN_of_three (okR_le e) e; omega
    have e4 : ¬ okR l 4 = true := fun e => by have := uN_of_four (okR_le e) e; omega
    unfold firstR
    rw [if_neg e1, if_neg e2, if_neg e3, if_neg e4, h1, h3, decide_eq_true ⟨rfl, rfl⟩]
    rfl
  · have e1 : ¬ okR l 1 = true := fun e => by have := (okR_one hl).1 e; omega
    have hb1 := bt_lt l 1
    have e2 : okR l 2 = true := (okR_two h2).2 (by omega)
    have hn : nR l 2 = ((bt l 0 : Int) - 192) * 64 + bt l 1 - 128 := rfl
    unfold firstR
    rw [if_neg e1, if_pos e2, h1, decide_eq_false (by omega)]
    have : (nR l 2).toNat = (uN l).1 := by rw [hn]; omega
    rw [this]; rfl
  · have hb1 := bt_lt l 1
    have hb2 := bt_lt l 2
    have e1 : ¬ okR l 1 = true := fun e => by have := (okR_one hl).1 e; omega
    have e2 : ¬ okR l 2 = true := fun e => by have := uN_of_two (okR_le e) e; omega
    have e3 : okR l 3 = true := (okR_three h2).2 (by omega)
    have hn : nR l 3 = (((bt l 0 : Int) - 224) * 64 + bt l 1 - 128) * 64 + bt l 2 - 128 := rfl
    unfold firstR
    rw [if_neg e1, if_neg e2, if_pos e3, h1, decide_eq_false (by omega)]
    have : (nR l 3).toNat = (uN l).1 := by rw [hn]; omega
    rw [this]; rfl
  · have hb1 := bt_lt l 1
    have hb2 := bt_lt l 2
    have hb3 := bt_lt l 3
    have e1 : ¬ okR l 1 = true := fun e => by have := (okR_one hl).1 e; omega
    have e2 : ¬ okR l 2 = true := fun e => by have := uN_of_two (okR_le e) e; omega
    have e3 : ¬ okR l 3 = true := fun e => by have := uN_of_three (okR_le e) e; omega
    have e4 : okR l 4 = true := (okR_four h2).2 (by omega)
    have hn : nR l 4 = ((((bt l 0 : Int) - 240) * 64 + bt l 1 - 128) * 64 + bt l 2 - 128) * 64 + bt l 3 - 128 := rfl
    unfold firstR
    rw [if_neg e1, if_neg e2, if_neg e3, if_pos e4, h1, decide_eq_false (by omega)]
    have : (nR l 4).toNat = (uN l).1 := by rw [hn]; omega
    rw [this]; rfl
end Go.Proofs.YtnpgnohlcphfnaaGreatDoor
