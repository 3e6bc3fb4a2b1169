/- Layer 7, plain: the days and their dates, by the program's way. Layer 37, plain: what a query's text means. Layer 37, plain: the tokens, byte by byte. A block of bytes that the call has laid ([]byte(s), make([]byte, n)): read, stored into, made a string again. The contract of small (query): lower case of ASCII letters. Layer 37: blank, by the program and by the reference. -/
import Derived.Laws.IdiomStrings
import Derived.Laws.Rows
import Derived.ShutString
import Derived.Test.YtomcdhmcjndioaaGreatDoorShelfP
import Derived.Test.YtomcdhmcjndioaaGreatDoorV01
import Derived.Test.YtomcdhmcjndioaaGreatDoorV02
section
namespace Go.Proofs.YtomcdhmcjndioaaGreatDoor
open Go.RowKit
set_option linter.unusedVariables false

def leapQ (y : Nat) : Bool := y % 4 == 0 && (y % 100 != 0 || y % 400 == 0)
def monQ (y m : Nat) : Nat := if m = 2 then (if leapQ y then 29 else 28) else if m = 4 ∨ m = 6 ∨ m = 9 ∨ m = 11 then 30 else 31
def dateB (y m d : Nat) : Bool := decide (1 ≤ y) && decide (y ≤ 9999) && decide (1 ≤ m) && decide (m ≤ 12) && decide (1 ≤ d) && decide (d ≤ monQ y m)
/-- The days of a year ahead of a month. -/
def cumQ (y : Nat) : Nat → Nat
  | 0 => 0
  | 1 => 0
  | m + 1 => cumQ y m + monQ y m
def dayQ (y m d : Nat) : Int := 365 * ((y : Int) - 1) + ((y : Int) - 1) / 4 - ((y : Int) - 1) / 100 + ((y : Int) - 1) / 400 - 719162 + d - 1 + cumQ y m
theorem yoe_back (y i : Int) (h0 : 0 ≤ y) (h : y < 400) (hi0 : 0 ≤ i) (hi : i ≤ 365) (hl : i = 365 → (y + 1) % 4 = 0 ∧ ((y + 1) % 100 ≠ 0 ∨ y = 399)) :
    ∀ o, o = 365 * y + y / 4 - y / 100 + i → (o - o / 1460 + o / 36524 - o / 146096) / 365 = y ∧ 0 ≤ o ∧ o < 146097 := by
  intro o ho
  obtain ⟨a, b, c, hy, hb, hc, ha, ha0, hb0, hc0⟩ : ∃ a b c : Int, y = 100 * a + 4 * b + c ∧ b < 25 ∧ c < 4 ∧ a < 4 ∧ 0 ≤ a ∧ 0 ≤ b ∧ 0 ≤ c := ⟨y / 100, (y % 100) / 4, y % 4, by omega, by omega, by omega, by omega, by omega, by omega, by omega⟩
  have h4 : y / 4 = 25 * a + b := by omega
  have h100 : y / 100 = a := by omega
  rw [h4, h100] at ho
  have e1 : o = 36524 * a + 1461 * b + 365 * c + i := by omega
  have hc3 : i = 365 → c = 3 := fun e => by have := (hl e).1; omega
  have hb24 : i = 365 → c = 3 → b = 24 → a = 3 := fun e e1 e2 => by
    have h2 := (hl e).2
    subst e1 e2
    have h3 : (y + 1) % 100 = 0 := by omega
    rcases h2 with h2 | h2
    · exact absurd h3 h2
    · omega
  clear hl ho h4 h100
  have hq2 : o / 36524 - o / 146096 = a ∧ o < 146097 := by
    by_cases hz : i = 365 ∧ c = 3 ∧ b = 24
    · obtain ⟨z1, z2, z3⟩ := hz
      have := hb24 z1 z2 z3
      have : o = 146096 := by omega
      subst this
      exact ⟨by omega, by omega⟩
    · have h1 : 1461 * b + 365 * c + i < 36524 := by omega
      have h2 : o / 36524 = a := by omega
      have h3 : o / 146096 = 0 := by omega
      rw [h2, h3]; exact ⟨by omega, by omega⟩
  have hq1 : (o / 1460 = 25 * a + b ∧ i < 365) ∨ (o / 1460 = 25 * a + b + 1 ∧ c = 3 ∧ 1 ≤ i) := by
    by_cases hz : 24 * a + b + 365 * c + i < 1460
    · left
      refine ⟨by omega, ?_⟩
      by_cases h5 : i = 365
      · have := hc3 h5; omega
      · omega
    · right
      refine ⟨by omega, by omega, by omega⟩
  obtain ⟨g1, g2⟩ := hq2
  refine ⟨?_, by omega, g2⟩
  generalize o / 36524 = p at *
  generalize o / 146096 = r at *
  rcases hq1 with ⟨h1, h2⟩ | ⟨h1, h2, h3⟩ <;> rw [h1] <;> omega
/-- The program's way from a day to its date. -/
def civP (n : Int) : Int × Int × Int :=
  if n < -719162 ∨ 2932896 < n then (0, 0, 0)
  else
    let o := (n + 719468) % 146097
    let yr := (o - o / 1460 + o / 36524 - o / 146096) / 365
    let ins := o - (365 * yr + yr / 4 - yr / 100)
    let k := (5 * ins + 2) / 153
    ((n + 719468) / 146097 * 400 + yr + (if (k + 2) % 12 + 1 < 3 then 1 else 0), (k + 2) % 12 + 1, ins - (153 * k + 2) / 5 + 1)
/-- The program's way from a date to its day. -/
def cntP (y m d : Int) : Int :=
  let z := if m < 3 then y - 1 else y
  z / 400 * 146097 + z % 400 * 365 + z % 400 / 4 - z % 400 / 100 + ((153 * ((m + 9) % 12) + 2) / 5 + d - 1) - 719468
theorem era_sum (z : Int) : z / 400 * 146097 + z % 400 * 365 + z % 400 / 4 - z % 400 / 100 = 365 * z + z / 4 - z / 100 + z / 400 := by
  have h1 : z / 4 = 100 * (z / 400) + z % 400 / 4 := by omega
  have h2 : z / 100 = 4 * (z / 400) + z % 400 / 100 := by omega
  omega
/-- From the parts of a March year. -/
theorem civ_of (z mp d : Int) (hz0 : 0 ≤ z) (hm0 : 0 ≤ mp) (hm : mp ≤ 11) (hd : 1 ≤ d)
    (hl : d ≤ (if mp = 11 then (if (z + 1) % 4 = 0 ∧ ((z + 1) % 100 ≠ 0 ∨ (z + 1) % 400 = 0) then 29 else 28) else if mp = 1 ∨ mp = 3 ∨ mp = 6 ∨ mp = 8 then 30 else 31))
    (n : Int) (hn : n = z / 400 * 146097 + z % 400 * 365 + z % 400 / 4 - z % 400 / 100 + ((153 * mp + 2) / 5 + d - 1) - 719468) (hn1 : -719162 ≤ n) (hn2 : n ≤ 2932896) :
    civP n = (z + (if (mp + 2) % 12 + 1 < 3 then 1 else 0), (mp + 2) % 12 + 1, d) := by
  obtain ⟨i, hi⟩ : ∃ i, (153 * mp + 2) / 5 + d - 1 = i := ⟨_, rfl⟩
  have hd31 : d ≤ 31 := by revert hl; repeat' split <;> intro hl <;> omega
  have hk : (5 * i + 2) / 153 = mp := by
    have hd30 : mp = 1 ∨ mp = 3 ∨ mp = 6 ∨ mp = 8 → d ≤ 30 := fun h => by
      rw [if_neg (by omega), if_pos h] at hl; exact hl
    have hd29 : mp = 11 → d ≤ 29 := fun h => by
      rw [if_pos h] at hl; split at hl <;> omega
    rcases (show mp = 0 ∨ mp = 1 ∨ mp = 2 ∨ mp = 3 ∨ mp = 4 ∨ mp = 5 ∨ mp = 6 ∨ mp = 7 ∨ mp = 8 ∨ mp = 9 ∨ mp = 10 ∨ mp = 11 by omega) with h | h | h | h | h | h | h | h | h | h | h | h <;> subst h <;> first | omega | (have := hd30 (by omega); omega) | (have := hd29 rfl; omega)
  have hi0 : 0 ≤ i := by omega
  have hi5 : i ≤ 365 ∧ (i = 365 → (z + 1) % 4 = 0 ∧ ((z + 1) % 100 ≠ 0 ∨ (z + 1) % 400 = 0)) := by
    by_cases h11 : mp = 11
    · rw [if_pos h11] at hl
      subst h11
      split at hl
      · rename_i h; exact ⟨by omega, fun _ => h⟩
      · exact ⟨by omega, fun _ => by omega⟩
    · exact ⟨by omega, fun _ => by omega⟩
  obtain ⟨o, ho⟩ : ∃ o, o = 365 * (z % 400) + z % 400 / 4 - z % 400 / 100 + i := ⟨_, rfl⟩
  obtain ⟨hy, ho0, ho1⟩ := yoe_back (z % 400) i (by omega) (by omega) hi0 hi5.1 (fun e => by have := hi5.2 e; omega) o ho
  have hno : n + 719468 = z / 400 * 146097 + o := by rw [hn, hi]; omega
  have hmod : (n + 719468) % 146097 = o := by rw [hno]; omega
  have hdiv : (n + 719468) / 146097 = z / 400 := by rw [hno]; omega
  unfold civP
  rw [if_neg (by omega)]
  dsimp only
  rw [hmod, hdiv, hy]
  have hins : o - (365 * (z % 400) + z % 400 / 4 - z % 400 / 100) = i := by omega
  rw [hins, hk]
  have h1 : z / 400 * 400 + z % 400 = z := by omega
  rw [h1]
  have h2 : i - (153 * mp + 2) / 5 + 1 = d := by omega
  rw [h2]

def oneL (y : Nat) : Int := if leapQ y then 1 else 0
theorem cum_tab (y : Nat) : (cumQ y 1 : Int) = 0 ∧ (cumQ y 2 : Int) = 31 ∧ (cumQ y 3 : Int) = 59 + oneL y ∧ (cumQ y 4 : Int) = 90 + oneL y ∧ (cumQ y 5 : Int) = 120 + oneL y ∧ (cumQ y 6 : Int) = 151 + oneL y ∧ (cumQ y 7 : Int) = 181 + oneL y ∧ (cumQ y 8 : Int) = 212 + oneL y ∧ (cumQ y 9 : Int) = 243 + oneL y ∧ (cumQ y 10 : Int) = 273 + oneL y ∧ (cumQ y 11 : Int) = 304 + oneL y ∧ (cumQ y 12 : Int) = 334 + oneL y := by
  unfold oneL
  cases h : leapQ y <;> simp [cumQ, monQ, h]
theorem one_leap (y : Nat) (hy : 1 ≤ y) : ((y : Int) - 1) / 4 - ((y : Int) - 1) / 100 + ((y : Int) - 1) / 400 + oneL y = (y : Int) / 4 - (y : Int) / 100 + (y : Int) / 400 := by
  have hl : leapQ y = true ↔ (y % 4 = 0 ∧ (y % 100 ≠ 0 ∨ y % 400 = 0)) := by unfold leapQ; simp
  unfold oneL
  split
  · rename_i h
    have h2 := hl.1 h
    omega
  · rename_i h
    have h2 : ¬ (y % 4 = 0 ∧ (y % 100 ≠ 0 ∨ y % 400 = 0)) := fun e => h (hl.2 e)
    omega
theorem cnt_day (y m d : Nat) (hy : 1 ≤ y) (hm : 1 ≤ m) (hm2 : m ≤ 12) (hd : 1 ≤ d) : cntP y m d = dayQ y m d := by
  unfold cntP dayQ
  dsimp only
  have hl := one_leap y hy
  rw [era_sum]
  obtain ⟨h1, h2, h3, h4, h5, h6, h7, h8, h9, h10, h11, h12⟩ := cum_tab y
  rcases (show m = 1 ∨ m = 2 ∨ m = 3 ∨ m = 4 ∨ m = 5 ∨ m = 6 ∨ m = 7 ∨ m = 8 ∨ m = 9 ∨ m = 10 ∨ m = 11 ∨ m = 12 by omega) with h | h | h | h | h | h | h | h | h | h | h | h <;> subst h
  · rw [h1, if_pos (by decide)]; omega
  · rw [h2, if_pos (by decide)]; omega
  · rw [h3, if_neg (by decide)]; omega
  · rw [h4, if_neg (by decide)]; omega
  · rw [h5, if_neg (by decide)]; omega
  · rw [h6, if_neg (by decide)]; omega
  · rw [h7, if_neg (by decide)]; omega
  · rw [h8, if_neg (by decide)]; omega
  · rw [h9, if_neg (by decide)]; omega
  · rw [h10, if_neg (by decide)]; omega
  · rw [h11, if_neg (by decide)]; omega
  · rw [h12, if_neg (by decide)]; omega
theorem mon_le (y m : Nat) : 28 ≤ monQ y m ∧ monQ y m ≤ 31 := by
  unfold monQ
  repeat' split
  all_goals exact ⟨by omega, by omega⟩
theorem cum_le (y m : Nat) (hm : 1 ≤ m) (hm2 : m ≤ 12) : (cumQ y m : Int) + monQ y m ≤ 365 + oneL y := by
  obtain ⟨h1, h2, h3, h4, h5, h6, h7, h8, h9, h10, h11, h12⟩ := cum_tab y
  have h0 : 0 ≤ oneL y ∧ oneL y ≤ 1 := by unfold oneL; split <;> exact ⟨by omega, by omega⟩
  have hb := mon_le y m
  rcases (show m = 12 ∨ m ≤ 11 by omega) with h | h
  · subst h; rw [h12]; show 334 + oneL y + ((31 : Nat) : Int) ≤ _; omega
  · rcases (show m = 1 ∨ m = 2 ∨ m = 3 ∨ m = 4 ∨ m = 5 ∨ m = 6 ∨ m = 7 ∨ m = 8 ∨ m = 9 ∨ m = 10 ∨ m = 11 by omega) with h | h | h | h | h | h | h | h | h | h | h <;> subst h <;> omega
/-- The first day of a year. -/
def yearQ (y : Int) : Int := 365 * (y - 1) + (y - 1) / 4 - (y - 1) / 100 + (y - 1) / 400 - 719162
theorem day_year (y m d : Nat) : dayQ y m d = yearQ y + (cumQ y m + d - 1) := by unfold dayQ yearQ; omega
theorem year_mono {a b : Int} (h : a ≤ b) : yearQ a ≤ yearQ b := by
  unfold yearQ
  have h1 : (a - 1) / 100 - (a - 1) / 400 ≤ (b - 1) / 100 - (b - 1) / 400 + 0 ∨ True := Or.inr trivial
  have e1 : (a - 1) / 4 ≤ (b - 1) / 4 := by omega
  have e3 : (a - 1) / 400 ≤ (b - 1) / 400 := by omega
  have e2 : (b - 1) / 100 - (a - 1) / 100 ≤ b - a := by omega
  omega
theorem year_next (y : Nat) (hy : 1 ≤ y) : yearQ ((y : Int) + 1) = yearQ y + 365 + oneL y := by
  have := one_leap y hy
  unfold yearQ
  have : (y : Int) + 1 - 1 = y := by omega
  rw [this]; omega
theorem day_in {y m d : Nat} (h : dateB y m d = true) : yearQ y ≤ dayQ y m d ∧ dayQ y m d < yearQ ((y : Int) + 1) ∧ -719162 ≤ dayQ y m d ∧ dayQ y m d ≤ 2932896 := by
  unfold dateB at h
  simp only [Bool.and_eq_true, decide_eq_true_eq] at h
  obtain ⟨⟨⟨⟨⟨h1, h2⟩, h3⟩, h4⟩, h5⟩, h6⟩ := h
  have hc := cum_le y m h3 h4
  have hd := day_year y m d
  have hn := year_next y h1
  have hlo := year_mono (a := 1) (b := y) (by omega)
  have hhi := year_mono (a := (y : Int) + 1) (b := 10000) (by omega)
  have z1 : yearQ 1 = -719162 := by decide
  have z2 : yearQ 10000 = 2932897 := by decide
  rw [z1] at hlo
  rw [z2] at hhi
  omega
theorem civ_day {y m d : Nat} (h : dateB y m d = true) : civP (dayQ y m d) = ((y : Int), (m : Int), (d : Int)) := by
  have hin := day_in h
  unfold dateB at h
  simp only [Bool.and_eq_true, decide_eq_true_eq] at h
  obtain ⟨⟨⟨⟨⟨h1, h2⟩, h3⟩, h4⟩, h5⟩, h6⟩ := h
  have hl : leapQ y = true ↔ (y % 4 = 0 ∧ (y % 100 ≠ 0 ∨ y % 400 = 0)) := by unfold leapQ; simp
  rcases (show m < 3 ∨ 3 ≤ m by omega) with hm | hm
  · have hn : dayQ y m d = ((y : Int) - 1) / 400 * 146097 + ((y : Int) - 1) % 400 * 365 + ((y : Int) - 1) % 400 / 4 - ((y : Int) - 1) % 400 / 100 + ((153 * ((m : Int) + 9) + 2) / 5 + d - 1) - 719468 := by
      rw [← cnt_day y m d h1 h3 h4 h5]
      unfold cntP
      dsimp only
      rw [if_pos (by omega), show ((m : Int) + 9) % 12 = (m : Int) + 9 by omega]
    have hx := civ_of ((y : Int) - 1) ((m : Int) + 9) d (by omega) (by omega) (by omega) (by omega) (by
      have e : (y : Int) - 1 + 1 = y := by omega
      rw [e]
      rcases (show m = 1 ∨ m = 2 by omega) with h | h <;> subst h
      · rw [if_neg (by decide), if_neg (by decide)]
        have := mon_le y 1; omega
      · rw [if_pos (by decide)]
        unfold monQ at h6
        rw [if_pos rfl] at h6
        split
        · split at h6 <;> omega
        · rename_i hb
          rw [if_neg (fun e => hb (by have := hl.1 e; omega))] at h6
          omega) (dayQ y m d) hn (by omega) (by omega)
    rw [hx]
    rw [show ((m : Int) + 9 + 2) % 12 + 1 = m by omega, if_pos (by omega), show (y : Int) - 1 + 1 = y by omega]
  · have hn : dayQ y m d = (y : Int) / 400 * 146097 + (y : Int) % 400 * 365 + (y : Int) % 400 / 4 - (y : Int) % 400 / 100 + ((153 * ((m : Int) - 3) + 2) / 5 + d - 1) - 719468 := by
      rw [← cnt_day y m d h1 h3 h4 h5]
      unfold cntP
      dsimp only
      rw [if_neg (by omega), show ((m : Int) + 9) % 12 = (m : Int) - 3 by omega]
    have hx := civ_of (y : Int) ((m : Int) - 3) d (by omega) (by omega) (by omega) (by omega) (by
      unfold monQ at h6
      rw [if_neg (by omega)] at h6
      rw [if_neg (by omega)]
      split
      · rw [if_pos (by omega)] at h6; omega
      · rw [if_neg (by omega)] at h6; omega) (dayQ y m d) hn (by omega) (by omega)
    rw [hx]
    rw [show ((m : Int) - 3 + 2) % 12 + 1 = m by omega, if_neg (by omega), show (y : Int) + 0 = y by omega]
/-- A day that a month lacks is one of the next month. -/
theorem civ_bad {y m d : Nat} (h1 : 1 ≤ y) (h2 : y ≤ 9999) (h3 : 1 ≤ m) (h4 : m ≤ 12) (h5 : 1 ≤ d) (h6 : d ≤ 31) (h : dateB y m d = false) : civP (cntP y m d) ≠ ((y : Int), (m : Int), (d : Int)) := by
  have hd : monQ y m < d := by
    rcases (show d ≤ monQ y m ∨ monQ y m < d by omega) with h7 | h7
    · unfold dateB at h
      rw [decide_eq_true h1, decide_eq_true h2, decide_eq_true h3, decide_eq_true h4, decide_eq_true h5, decide_eq_true h7] at h
      cases h
    · exact h7
  have hm : m ≠ 12 := by rintro rfl; have : monQ y 12 = 31 := rfl; omega
  have hb := mon_le y m
  have hb2 := mon_le y (m + 1)
  have hc : dayQ y m d = dayQ y (m + 1) (d - monQ y m) := by
    rw [day_year, day_year]
    have : cumQ y (m + 1) = cumQ y m + monQ y m := by
      obtain ⟨k, rfl⟩ : ∃ k, m = k + 1 := ⟨m - 1, by omega⟩
      rfl
    omega
  have hg : dateB y (m + 1) (d - monQ y m) = true := by
    unfold dateB
    simp only [Bool.and_eq_true, decide_eq_true_eq]
    omega
  rw [cnt_day y m d h1 h3 h4 h5, hc, civ_day hg]
  intro e
  have := congrArg (·.2.1) e
  simp only at this
  omega
/-- Days, as the program and the reference say it. -/
def daysQ (y m d : Nat) : Int := if dateB y m d then dayQ y m d else 0
theorem civ_days (y m d : Nat) : civP (daysQ y m d) = ((y : Int), (m : Int), (d : Int)) ↔ dateB y m d = true := by
  unfold daysQ
  cases h : dateB y m d
  · rw [if_neg (by decide)]
    have h0 : civP 0 = (1970, 1, 1) := by decide
    rw [h0]
    constructor
    · intro e
      have e1 := congrArg (·.1) e
      have e2 := congrArg (·.2.1) e
      have e3 := congrArg (·.2.2) e
      simp only at e1 e2 e3
      obtain rfl : y = 1970 := by omega
      obtain rfl : m = 1 := by omega
      obtain rfl : d = 1 := by omega
      revert h; decide
    · intro e; cases e
  · rw [if_pos rfl, civ_day h]; simp
end Go.Proofs.YtomcdhmcjndioaaGreatDoor
end
section
namespace Go.Proofs.YtomcdhmcjndioaaGreatDoor
open Go.RowKit
set_option linter.unusedVariables false

/-- A query. -/
inductive Qry where
  | mk (op fld : Int) (text : List UInt8) (n : Int) (kids : List Qry)
def Qry.op : Qry → Int | .mk a _ _ _ _ => a
def Qry.fld : Qry → Int | .mk _ a _ _ _ => a
def Qry.text : Qry → List UInt8 | .mk _ _ a _ _ => a
def Qry.n : Qry → Int | .mk _ _ _ a _ => a
def Qry.kids : Qry → List Qry | .mk _ _ _ _ a => a
def noQ : Qry := .mk 0 0 [] 0 []
def blankQ (c : UInt8) : Bool := c == 32 || c == 9 || c == 13 || c == 10
/-- A byte that ends a bare token. -/
def edgeQ (c : UInt8) : Bool := blankQ c || c == 40 || c == 41 || c == 34
def fieldsQ : List (List UInt8) := [[], [102, 114, 111, 109], [116, 111], [115, 117, 98, 106, 101, 99, 116], [98, 111, 100, 121], [102, 105, 108, 101]]
/-- The number of a text field, or 0. -/
def fieldQ (s : List UInt8) : Nat := if smallP s = [102, 114, 111, 109] then 1 else if smallP s = [116, 111] then 2 else if smallP s = [115, 117, 98, 106, 101, 99, 116] then 3 else if smallP s = [98, 111, 100, 121] then 4 else if smallP s = [102, 105, 108, 101] then 5 else 0
inductive QTok where
  | fin | opn | sht | dash | bad
  | quo (t : List UInt8) (f : Nat) (raw : List UInt8)
  | bare (t : List UInt8)
structure Pce where
  src : Nat
  dst : Nat
  tok : QTok
/-- A quoted string: what lies behind its opening quote, which stands at `a`. -/
def quoQ (src a : Nat) (r : List UInt8) (f : Nat) (raw : List UInt8) : Pce :=
  if 34 ∈ r then ⟨src, a + (r.takeWhile (· != 34)).length + 2, .quo (r.takeWhile (· != 34)) f raw⟩ else ⟨a, a, .bad⟩
/-- A bare token, or a field's quoted string. -/
def bareQ (k : Nat) (l : List UInt8) : Pce :=
  let t := l.takeWhile (fun c => !edgeQ c)
  match l.drop t.length with
  | 34 :: u => if t.getLast? = some 58 ∧ 0 < fieldQ t.dropLast then quoQ k (k + t.length) u (fieldQ t.dropLast) t else ⟨k, k + t.length, .bare t⟩
  | _ => ⟨k, k + t.length, .bare t⟩
/-- Whether a minus stands ahead of these bytes as a token. -/
def dashB : List UInt8 → Bool
  | [] => false
  | d :: _ => !blankQ d && d != 41
def tokQ (k : Nat) : List UInt8 → Pce
  | [] => ⟨k, k, .fin⟩
  | c :: r =>
    if c = 40 then ⟨k, k + 1, .opn⟩ else if c = 41 then ⟨k, k + 1, .sht⟩ else if c = 34 then quoQ k k r 0 []
    else if c = 45 ∧ dashB r = true then ⟨k, k + 1, .dash⟩ else bareQ k (c :: r)
/-- The blanks at the front. -/
def gapQ (l : List UInt8) : Nat := (l.takeWhile blankQ).length
/-- The next token. -/
def peekQ (s : List UInt8) (a : Nat) : Pce := tokQ (a + gapQ (s.drop a)) (s.drop (a + gapQ (s.drop a)))

def joinSp : List (List UInt8) → List UInt8
  | [] => []
  | [w] => w
  | w :: r => w ++ 32 :: joinSp r
def textQ (s : List UInt8) (f : Nat) : Option Qry :=
  match listP s with
  | [] => none
  | [w] => some (.mk 2 f w 0 [])
  | l => some (.mk 3 f (joinSp l) 0 [])
def plainQ (s : List UInt8) (f : Nat) : Option Qry :=
  if s.getLast? = some 42 then
    match listP s.dropLast with
    | [w] => some (.mk 4 f w 0 [])
    | _ => textQ s f
  else textQ s f
def flagC (c : UInt8) : Bool := (97 ≤ c && c ≤ 122) || (48 ≤ c && c ≤ 57) || c == 36 || c == 92 || c == 45 || c == 95 || c == 46
def flagQ (s : List UInt8) : Bool := decide (1 ≤ s.length) && decide (s.length ≤ 30) && s.all flagC
def timesQ (s : List UInt8) : Int :=
  match s.getLast? with
  | some c => if c = 75 ∨ c = 107 then 1024 else if c = 77 ∨ c = 109 then 1048576 else 1
  | none => 1
def sizeQ (s : List UInt8) : Option Int := (decP (if 1 < timesQ s then s.dropLast else s) 0 1048576).map (· * timesQ s)
def numQ (l : List UInt8) : Nat := l.foldl (fun a c => 10 * a + (c.toNat - 48)) 0
def momentQ (s : List UInt8) : Option Int :=
  if s.length = 10 ∧ s.getD 4 0 = 45 ∧ s.getD 7 0 = 45 ∧ (s.take 4).all digitB = true ∧ ((s.drop 5).take 2).all digitB = true ∧ (s.drop 8).all digitB = true then
    (if dateB (numQ (s.take 4)) (numQ ((s.drop 5).take 2)) (numQ (s.drop 8)) then some (86400 * dayQ (numQ (s.take 4)) (numQ ((s.drop 5).take 2)) (numQ (s.drop 8))) else none)
  else none
/-- The meaning of a value behind a name that is no text field; the outer option: whether there is such a name. -/
def namedQ (name v : List UInt8) : Option (Option Qry) :=
  if name = [105, 115] then some (if flagQ (smallP v) then some (.mk 5 0 (smallP v) 0 []) else none)
  else if name = [105, 110] then some ((decP v 1 1099511627776).map fun n => .mk 6 0 [] n [])
  else if name = [108, 97, 114, 103, 101, 114] then some ((sizeQ v).map fun n => .mk 9 0 [] n [])
  else if name = [115, 109, 97, 108, 108, 101, 114] then some ((sizeQ v).map fun n => .mk 10 0 [] n [])
  else if name = [98, 101, 102, 111, 114, 101] then some ((momentQ v).map fun n => .mk 7 0 [] n [])
  else if name = [97, 102, 116, 101, 114] then some ((momentQ v).map fun n => .mk 8 0 [] n [])
  else none
/-- The meaning of a bare token. -/
def meansQ (t : List UInt8) : Option Qry :=
  if 58 ∈ t then
    let name := t.takeWhile (· != 58)
    let rest := t.drop (name.length + 1)
    if 0 < fieldQ name then plainQ rest (fieldQ name)
    else match namedQ (smallP name) rest with
      | some o => o
      | none => plainQ t 0
  else plainQ t 0

inductive QRes where
  | ok (q : Qry) (a : Nat)
  | err (e a : Nat)
inductive QKind where
  | term | row | qry
  | rows (l : List Qry)
  | qrys (l : List Qry)
def wAND : List UInt8 := [65, 78, 68]
def wOR : List UInt8 := [79, 82]
def wNOT : List UInt8 := [78, 79, 84]
def joinQ (op : Int) : List Qry → Qry
  | [q] => q
  | l => .mk op 0 [] 0 l
def QRes.then (r : QRes) (k : Qry → Nat → QRes) : QRes :=
  match r with
  | .ok q a => k q a
  | .err e a => .err e a
def leafQ (o : Option Qry) (x : Pce) : QRes :=
  match o with
  | some q => .ok q x.dst
  | none => .err 2 x.src
/-- Whether a token ends a row. -/
def stopRow : QTok → Bool
  | .fin => true
  | .sht => true
  | .bare t => decide (t = wOR)
  | _ => false
def isBare (w : List UInt8) : QTok → Bool
  | .bare t => decide (t = w)
  | _ => false
def shutB : QTok → Bool
  | .sht => true
  | _ => false
/-- What a term begins with: 0 nothing, 1 a negation, 2 a parenthesis, 3 a token with a meaning. -/
def headQ : QTok → Nat
  | .fin => 0
  | .sht => 0
  | .bad => 0
  | .dash => 1
  | .opn => 2
  | .quo _ _ _ => 3
  | .bare t => if t = wAND ∨ t = wOR then 0 else if t = wNOT then 1 else 3
def valueQ : QTok → Option Qry
  | .quo t f _ => textQ t f
  | .bare t => meansQ t
  | _ => none
def runQ (s : List UInt8) : Nat → QKind → Nat → Nat → QRes
  | 0, _, _, _ => .err 2 0
  | f + 1, .term, d, a =>
    if headQ (peekQ s a).tok = 0 then .err 2 (peekQ s a).src
    else if headQ (peekQ s a).tok = 3 then leafQ (valueQ (peekQ s a).tok) (peekQ s a)
    else if 8 ≤ d then .err 10 (peekQ s a).src
    else if headQ (peekQ s a).tok = 1 then (runQ s f .term (d + 1) (peekQ s a).dst).then fun q b => .ok (.mk 13 0 [] 0 [q]) b
    else (runQ s f .qry (d + 1) (peekQ s a).dst).then fun q b => if shutB (peekQ s b).tok then .ok q (peekQ s b).dst else .err 2 (peekQ s b).src
  | f + 1, .row, d, a => (runQ s f .term d a).then fun q b => runQ s f (.rows [q]) d b
  | f + 1, .rows l, d, a =>
    if stopRow (peekQ s a).tok then .ok (joinQ 11 l) a
    else (runQ s f .term d (if isBare wAND (peekQ s a).tok then (peekQ s a).dst else a)).then fun q b => runQ s f (.rows (l ++ [q])) d b
  | f + 1, .qry, d, a => (runQ s f .row d a).then fun q b => runQ s f (.qrys [q]) d b
  | f + 1, .qrys l, d, a =>
    if isBare wOR (peekQ s a).tok then (runQ s f .row d (peekQ s a).dst).then fun q b => runQ s f (.qrys (l ++ [q])) d b
    else .ok (joinQ 12 l) a
def finB : QTok → Bool
  | .fin => true
  | _ => false
/-- Parse: the query, the error and its place. -/
def parseQ (s : List UInt8) : Qry × Nat × Nat :=
  if 1000 < s.length then (noQ, 16, 0)
  else if finB (peekQ s 0).tok then (.mk 1 0 [] 0 [], 0, 0)
  else match runQ s (3 * s.length + 9) .qry 0 0 with
    | .ok q a => if finB (peekQ s a).tok then (q, 0, 0) else (noQ, 2, (peekQ s a).src)
    | .err e a => (noQ, e, a)

theorem gap_le (l : List UInt8) : gapQ l ≤ l.length := by
  unfold gapQ
  exact (List.takeWhile_prefix _).length_le
theorem quo_src (src a : Nat) (r : List UInt8) (f : Nat) (raw : List UInt8) : (quoQ src a r f raw).src = src ∨ (quoQ src a r f raw).src = a := by
  unfold quoQ
  split
  · exact Or.inl rfl
  · exact Or.inr rfl
theorem quo_dst (src a : Nat) (r : List UInt8) (f : Nat) (raw : List UInt8) : a ≤ (quoQ src a r f raw).dst ∧ (quoQ src a r f raw).dst ≤ a + 1 + r.length := by
  unfold quoQ
  split
  · rename_i h
    refine ⟨by show a ≤ a + _ + 2; omega, ?_⟩
    show a + (r.takeWhile (· != 34)).length + 2 ≤ _
    have : (r.takeWhile (· != 34)).length < r.length := by
      rw [Nat.lt_iff_le_and_ne]
      refine ⟨(List.takeWhile_prefix _).length_le, fun e => ?_⟩
      have h2 := (List.takeWhile_prefix (p := (· != 34)) (l := r)).eq_of_length e
      rw [← h2] at h
      have h3 := List.all_takeWhile (p := (· != 34)) (l := r)
      rw [List.all_eq_true] at h3
      exact absurd (h3 _ h) (by decide)
    omega
  · exact ⟨Nat.le_refl _, by show a ≤ _; omega⟩
theorem bare_dst (k : Nat) (l : List UInt8) : k ≤ (bareQ k l).src ∧ (bareQ k l).src ≤ k + l.length ∧ k ≤ (bareQ k l).dst ∧ (bareQ k l).dst ≤ k + l.length := by
  have h : (l.takeWhile (fun c => !edgeQ c)).length ≤ l.length := (List.takeWhile_prefix _).length_le
  unfold bareQ
  dsimp only
  split
  · rename_i u hu
    have hl : (l.takeWhile (fun c => !edgeQ c)).length + (1 + u.length) = l.length := by
      have := congrArg List.length hu
      rw [List.length_drop, List.length_cons] at this
      omega
    split
    · have h1 := quo_dst k (k + (l.takeWhile (fun c => !edgeQ c)).length) u (fieldQ (l.takeWhile (fun c => !edgeQ c)).dropLast) (l.takeWhile (fun c => !edgeQ c))
      rcases quo_src k (k + (l.takeWhile (fun c => !edgeQ c)).length) u (fieldQ (l.takeWhile (fun c => !edgeQ c)).dropLast) (l.takeWhile (fun c => !edgeQ c)) with h2 | h2 <;> rw [h2] <;> omega
    · exact ⟨Nat.le_refl _, by dsimp only; omega, by dsimp only; omega, by dsimp only; omega⟩
  · exact ⟨Nat.le_refl _, by dsimp only; omega, by dsimp only; omega, by dsimp only; omega⟩
theorem tok_dst (k : Nat) (l : List UInt8) : k ≤ (tokQ k l).src ∧ (tokQ k l).src ≤ k + l.length ∧ k ≤ (tokQ k l).dst ∧ (tokQ k l).dst ≤ k + l.length := by
  cases l with
  | nil => exact ⟨Nat.le_refl _, Nat.le_refl _, Nat.le_refl _, Nat.le_refl _⟩
  | cons c r =>
    have hl : (c :: r).length = r.length + 1 := rfl
    unfold tokQ
    dsimp only
    split
    · exact ⟨by dsimp only; omega, by dsimp only; omega, by dsimp only; omega, by dsimp only; omega⟩
    · split
      · exact ⟨by dsimp only; omega, by dsimp only; omega, by dsimp only; omega, by dsimp only; omega⟩
      · split
        · have h1 := quo_dst k k r 0 []
          rcases quo_src k k r 0 [] with h2 | h2 <;> rw [h2] <;> omega
        · split
          · exact ⟨by dsimp only; omega, by dsimp only; omega, by dsimp only; omega, by dsimp only; omega⟩
          · exact bare_dst k (c :: r)
theorem peek_in (s : List UInt8) (a : Nat) (ha : a ≤ s.length) : a ≤ (peekQ s a).src ∧ (peekQ s a).src ≤ s.length ∧ a ≤ (peekQ s a).dst ∧ (peekQ s a).dst ≤ s.length := by
  have h1 := gap_le (s.drop a)
  rw [List.length_drop] at h1
  have h2 := tok_dst (a + gapQ (s.drop a)) (s.drop (a + gapQ (s.drop a)))
  rw [List.length_drop] at h2
  unfold peekQ
  omega
theorem bare_on (k : Nat) (c : UInt8) (r : List UInt8) (hc : edgeQ c = false) : k < (bareQ k (c :: r)).dst ∨ (bareQ k (c :: r)).tok = .bad := by
  have h : 1 ≤ ((c :: r).takeWhile (fun c => !edgeQ c)).length := by
    rw [List.takeWhile_cons_of_pos (by rw [hc]; rfl)]
    exact Nat.succ_le_succ (Nat.zero_le _)
  unfold bareQ
  dsimp only
  split
  · split
    · unfold quoQ
      split
      · left; dsimp only; omega
      · right; rfl
    · left; dsimp only; omega
  · left; dsimp only; omega
theorem quo_on (src a : Nat) (r : List UInt8) (f : Nat) (raw : List UInt8) : a < (quoQ src a r f raw).dst ∨ (quoQ src a r f raw).tok = .bad := by
  unfold quoQ
  split
  · left; dsimp only; omega
  · right; rfl
theorem tok_on (k : Nat) (l : List UInt8) (hl : ∀ c, l.head? = some c → blankQ c = false) : k < (tokQ k l).dst ∨ (tokQ k l).tok = .bad ∨ (tokQ k l).tok = .fin := by
  cases l with
  | nil => exact Or.inr (Or.inr rfl)
  | cons c r =>
    unfold tokQ
    dsimp only
    split
    · left; dsimp only; omega
    · rename_i h1
      split
      · left; dsimp only; omega
      · rename_i h2
        split
        · rcases quo_on k k r 0 [] with h | h
          · exact Or.inl h
          · exact Or.inr (Or.inl h)
        · rename_i h3
          split
          · left; dsimp only; omega
          · have hb := hl c rfl
            rcases bare_on k c r (by unfold edgeQ; rw [hb]; simp [h1, h2, h3]) with h | h
            · exact Or.inl h
            · exact Or.inr (Or.inl h)
theorem gap_head (l : List UInt8) (c : UInt8) (h : (l.drop (gapQ l)).head? = some c) : blankQ c = false := by
  induction l with
  | nil => simp [gapQ] at h
  | cons d r ih =>
    unfold gapQ at h ih
    by_cases hd : blankQ d = true
    · rw [List.takeWhile_cons_of_pos hd] at h
      exact ih h
    · rw [List.takeWhile_cons_of_neg hd] at h
      simp only [List.length_nil, List.drop_zero, List.head?_cons, Option.some.injEq] at h
      rw [← h]; simpa using hd
/-- A token that is read lies behind the place. -/
theorem peek_on (s : List UInt8) (a : Nat) : a < (peekQ s a).dst ∨ (peekQ s a).tok = .bad ∨ (peekQ s a).tok = .fin := by
  unfold peekQ
  rcases tok_on (a + gapQ (s.drop a)) (s.drop (a + gapQ (s.drop a))) (fun c hc => gap_head (s.drop a) c (by rw [List.drop_drop]; exact hc)) with h | h
  · left; omega
  · exact Or.inr h
theorem peek_head {s : List UInt8} {a : Nat} (h : headQ (peekQ s a).tok ≠ 0) : a < (peekQ s a).dst := by
  rcases peek_on s a with h1 | h1 | h1
  · exact h1
  · rw [h1] at h; exact absurd rfl h
  · rw [h1] at h; exact absurd rfl h
theorem peek_shut {s : List UInt8} {a : Nat} (h : shutB (peekQ s a).tok = true) : a < (peekQ s a).dst := by
  rcases peek_on s a with h1 | h1 | h1
  · exact h1
  · rw [h1] at h; cases h
  · rw [h1] at h; cases h
theorem peek_bare {s w : List UInt8} {a : Nat} (h : isBare w (peekQ s a).tok = true) : a < (peekQ s a).dst := by
  rcases peek_on s a with h1 | h1 | h1
  · exact h1
  · rw [h1] at h; cases h
  · rw [h1] at h; cases h
/-- What a run gives: a place within the text; an error's code is one of two. -/
def InQ (s : List UInt8) (a : Nat) : QRes → Prop
  | .ok _ b => a ≤ b ∧ b ≤ s.length
  | .err e b => b ≤ s.length ∧ (e = 2 ∨ e = 10)
theorem InQ.less {s : List UInt8} {a a' : Nat} {r : QRes} (h : InQ s a' r) (ha : a ≤ a') : InQ s a r := by
  cases r with
  | ok q b => exact ⟨Nat.le_trans ha h.1, h.2⟩
  | err e b => exact h
theorem InQ.bind {s : List UInt8} {a : Nat} {r : QRes} {k : Qry → Nat → QRes} (h : InQ s a r) (hk : ∀ q b, r = .ok q b → a ≤ b → b ≤ s.length → InQ s b (k q b)) : InQ s a (r.then k) := by
  cases r with
  | ok q b => exact (hk q b rfl h.1 h.2).less h.1
  | err e b => exact h
theorem run_in (s : List UInt8) : ∀ (f : Nat) (k : QKind) (d a : Nat), a ≤ s.length → InQ s a (runQ s f k d a)
  | 0, _, _, _, _ => ⟨Nat.zero_le _, Or.inl rfl⟩
  | f + 1, .term, d, a, ha => by
    have hp := peek_in s a ha
    unfold runQ
    split
    · exact ⟨hp.2.1, Or.inl rfl⟩
    · split
      · unfold leafQ
        split
        · exact ⟨hp.2.2.1, hp.2.2.2⟩
        · exact ⟨hp.2.1, Or.inl rfl⟩
      · split
        · exact ⟨hp.2.1, Or.inr rfl⟩
        · split
          · refine ((run_in s f .term (d + 1) _ hp.2.2.2).bind fun q b _ h1 h2 => ?_).less hp.2.2.1
            exact ⟨Nat.le_refl _, h2⟩
          · refine ((run_in s f .qry (d + 1) _ hp.2.2.2).bind fun q b _ h1 h2 => ?_).less hp.2.2.1
            have hq := peek_in s b h2
            split
            · exact ⟨hq.2.2.1, hq.2.2.2⟩
            · exact ⟨hq.2.1, Or.inl rfl⟩
  | f + 1, .row, d, a, ha => by
    unfold runQ
    exact (run_in s f .term d a ha).bind fun q b _ h1 h2 => run_in s f _ d b h2
  | f + 1, .qry, d, a, ha => by
    unfold runQ
    exact (run_in s f .row d a ha).bind fun q b _ h1 h2 => run_in s f _ d b h2
  | f + 1, .rows l, d, a, ha => by
    have hp := peek_in s a ha
    unfold runQ
    split
    · exact ⟨Nat.le_refl _, ha⟩
    · have h1 : a ≤ (if isBare wAND (peekQ s a).tok then (peekQ s a).dst else a) ∧ (if isBare wAND (peekQ s a).tok then (peekQ s a).dst else a) ≤ s.length := by
        split
        · exact hp.2.2
        · exact ⟨Nat.le_refl _, ha⟩
      exact ((run_in s f .term d _ h1.2).bind fun q b _ h1 h2 => run_in s f _ d b h2).less h1.1
  | f + 1, .qrys l, d, a, ha => by
    have hp := peek_in s a ha
    unfold runQ
    split
    · exact ((run_in s f .row d _ hp.2.2.2).bind fun q b _ h1 h2 => run_in s f _ d b h2).less hp.2.2.1
    · exact ⟨Nat.le_refl _, ha⟩
theorem parse_in (s : List UInt8) : (parseQ s).2.2 ≤ s.length := by
  unfold parseQ
  split
  · exact Nat.zero_le _
  · split
    · exact Nat.zero_le _
    · have h := run_in s (3 * s.length + 9) .qry 0 0 (Nat.zero_le _)
      split
      · rename_i q a e
        rw [e] at h
        split
        · exact Nat.zero_le _
        · exact (peek_in s a h.2).2.1
      · rename_i e a he
        rw [he] at h
        exact h.1
end Go.Proofs.YtomcdhmcjndioaaGreatDoor
end
section
namespace Go.Proofs.YtomcdhmcjndioaaGreatDoor
open Go.RowKit
set_option linter.unusedVariables false

theorem gap_step {s : List UInt8} {k : Nat} (hk : k < s.length) (h : blankQ s[k] = true) : k + gapQ (s.drop k) = (k + 1) + gapQ (s.drop (k + 1)) := by
  rw [List.drop_eq_getElem_cons hk]
  unfold gapQ
  rw [List.takeWhile_cons_of_pos h, List.length_cons]
  omega
theorem gap_stop {s : List UInt8} {k : Nat} (hk : k < s.length) (h : blankQ s[k] = false) : gapQ (s.drop k) = 0 := by
  rw [List.drop_eq_getElem_cons hk]
  unfold gapQ
  rw [List.takeWhile_cons_of_neg (by rw [h]; decide)]
  rfl
theorem gap_end {s : List UInt8} {k : Nat} (hk : s.length ≤ k) : gapQ (s.drop k) = 0 := by
  rw [List.drop_of_length_le hk]
  rfl
/-- How far the blanks are passed at k. -/
def GapRel (s : List UInt8) (a k : Nat) : Prop := a + gapQ (s.drop a) = k + gapQ (s.drop k)
theorem peek_at {s : List UInt8} {a k : Nat} (h : GapRel s a k) (h0 : gapQ (s.drop k) = 0) : peekQ s a = tokQ k (s.drop k) := by
  unfold GapRel at h
  unfold peekQ
  rw [h, h0, Nat.add_zero]
theorem tok_fin {s : List UInt8} {k : Nat} (hk : s.length ≤ k) : tokQ k (s.drop k) = ⟨k, k, .fin⟩ := by
  rw [List.drop_of_length_le hk]
  rfl
theorem tok_opn {s : List UInt8} {k : Nat} (hk : k < s.length) (h : s[k] = 40) : tokQ k (s.drop k) = ⟨k, k + 1, .opn⟩ := by
  rw [List.drop_eq_getElem_cons hk, h]
  rfl
theorem tok_sht {s : List UInt8} {k : Nat} (hk : k < s.length) (h : s[k] = 41) : tokQ k (s.drop k) = ⟨k, k + 1, .sht⟩ := by
  rw [List.drop_eq_getElem_cons hk, h]
  rfl
theorem tok_quo {s : List UInt8} {k : Nat} (hk : k < s.length) (h : s[k] = 34) : tokQ k (s.drop k) = quoQ k k (s.drop (k + 1)) 0 [] := by
  rw [List.drop_eq_getElem_cons hk, h]
  rfl
theorem tok_dash {s : List UInt8} {k : Nat} (hk : k < s.length) (h : s[k] = 45) (hk1 : k + 1 < s.length) (h1 : blankQ s[k + 1] = false) (h2 : s[k + 1] ≠ 41) : tokQ k (s.drop k) = ⟨k, k + 1, .dash⟩ := by
  rw [List.drop_eq_getElem_cons hk, h, List.drop_eq_getElem_cons hk1]
  unfold tokQ dashB
  dsimp only
  rw [if_neg (by decide), if_neg (by decide), if_neg (by decide), if_pos ⟨rfl, by rw [h1]; simpa using h2⟩]
theorem tok_bare {s : List UInt8} {k : Nat} (hk : k < s.length) (h0 : s[k] ≠ 40) (h1 : s[k] ≠ 41) (h2 : s[k] ≠ 34) (h3 : s[k] = 45 → ∀ h : k + 1 < s.length, blankQ s[k + 1] = true ∨ s[k + 1] = 41) : tokQ k (s.drop k) = bareQ k (s.drop k) := by
  conv => lhs; rw [List.drop_eq_getElem_cons hk]
  conv => rhs; rw [List.drop_eq_getElem_cons hk]
  unfold tokQ
  dsimp only
  rw [if_neg h0, if_neg h1, if_neg h2, if_neg]
  rintro ⟨h4, h5⟩
  by_cases hk1 : k + 1 < s.length
  · rw [List.drop_eq_getElem_cons hk1] at h5
    unfold dashB at h5
    rw [Bool.and_eq_true] at h5
    rcases h3 h4 hk1 with h | h
    · rw [h] at h5; exact absurd h5.1 (by decide)
    · rw [h] at h5; exact absurd h5.2 (by decide)
  · rw [List.drop_of_length_le (by omega)] at h5
    cases h5
/-- The length of a bare token. -/
def bareN (l : List UInt8) : Nat := (l.takeWhile (fun c => !edgeQ c)).length
theorem bareN_step {s : List UInt8} {k : Nat} (hk : k < s.length) (h : edgeQ s[k] = false) : k + bareN (s.drop k) = (k + 1) + bareN (s.drop (k + 1)) := by
  rw [List.drop_eq_getElem_cons hk]
  unfold bareN
  rw [List.takeWhile_cons_of_pos (by rw [h]; rfl), List.length_cons]
  omega
theorem bareN_stop {s : List UInt8} {k : Nat} (hk : k < s.length) (h : edgeQ s[k] = true) : bareN (s.drop k) = 0 := by
  rw [List.drop_eq_getElem_cons hk]
  unfold bareN
  rw [List.takeWhile_cons_of_neg (by rw [h]; decide)]
  rfl
theorem bareN_end {s : List UInt8} {k : Nat} (hk : s.length ≤ k) : bareN (s.drop k) = 0 := by
  rw [List.drop_of_length_le hk]
  rfl
def BareRel (s : List UInt8) (k t : Nat) : Prop := k + bareN (s.drop k) = t + bareN (s.drop t)
theorem bare_text {s : List UInt8} {k t : Nat} (h : BareRel s k t) (h0 : bareN (s.drop t) = 0) : (s.drop k).takeWhile (fun c => !edgeQ c) = (s.take t).drop k := by
  unfold BareRel at h
  rw [h0] at h
  have h1 := List.prefix_iff_eq_take.1 (List.takeWhile_prefix (p := fun c => !edgeQ c) (l := s.drop k))
  rw [h1, List.drop_take]
  congr 1
  unfold bareN at h
  omega
theorem bare_len {s : List UInt8} {k t : Nat} (h : BareRel s k t) (h0 : bareN (s.drop t) = 0) : ((s.drop k).takeWhile (fun c => !edgeQ c)).length = t - k ∧ k ≤ t := by
  unfold BareRel at h
  rw [h0] at h
  unfold bareN at h
  omega
/-- A bare token that no quote follows. -/
theorem bare_plain {s : List UInt8} {k t : Nat} (h : BareRel s k t) (h0 : bareN (s.drop t) = 0) (hn : ∀ ht : t < s.length, s[t] ≠ 34) : bareQ k (s.drop k) = ⟨k, t, .bare ((s.take t).drop k)⟩ := by
  have h1 := bare_text h h0
  have h2 := bare_len h h0
  unfold bareQ
  dsimp only
  rw [h2.1, List.drop_drop, show k + (t - k) = t by omega, h1]
  split
  · rename_i u hu
    exfalso
    by_cases ht : t < s.length
    · rw [List.drop_eq_getElem_cons ht] at hu
      injection hu with hu
      exact hn ht hu
    · rw [List.drop_of_length_le (by omega)] at hu
      cases hu
  · rfl
theorem bare_last {s : List UInt8} {k t : Nat} (hkt : k < t) (ht : t ≤ s.length) : ((s.take t).drop k).getLast? = some (s[t - 1]'(by omega)) ∧ ((s.take t).drop k).dropLast = (s.take (t - 1)).drop k := by
  constructor
  · rw [List.getLast?_eq_getElem?, List.length_drop, List.length_take, Nat.min_eq_left ht, List.getElem?_drop, List.getElem?_take, if_pos (by omega), show k + (t - k - 1) = t - 1 by omega, List.getElem?_eq_getElem]
  · rw [List.dropLast_eq_take, List.length_drop, List.length_take, Nat.min_eq_left ht, List.take_drop, List.take_take]
    congr 2
    omega
/-- A quote behind a bare token that is no field's name. -/
theorem bare_other {s : List UInt8} {k t : Nat} (h : BareRel s k t) (h0 : bareN (s.drop t) = 0) (hkt : k < t) (ht : t < s.length) (hc : s[t] = 34) (hn : s[t - 1]'(by omega) ≠ 58 ∨ fieldQ ((s.take (t - 1)).drop k) = 0) : bareQ k (s.drop k) = ⟨k, t, .bare ((s.take t).drop k)⟩ := by
  have h1 := bare_text h h0
  have h2 := bare_len h h0
  have h3 := bare_last hkt (Nat.le_of_lt ht)
  unfold bareQ
  dsimp only
  rw [h2.1, List.drop_drop, show k + (t - k) = t by omega, h1, List.drop_eq_getElem_cons ht, hc]
  show (if (List.drop k (List.take t s)).getLast? = some 58 ∧ 0 < fieldQ (List.drop k (List.take t s)).dropLast then quoQ k t (List.drop (t + 1) s) (fieldQ (List.drop k (List.take t s)).dropLast) (List.drop k (List.take t s)) else _) = _
  rw [if_neg]
  rintro ⟨h4, h5⟩
  rw [h3.1] at h4
  rw [h3.2] at h5
  injection h4 with h4
  rcases hn with h6 | h6
  · exact h6 h4
  · omega
/-- A field's quoted string. -/
theorem bare_field {s : List UInt8} {k t : Nat} (h : BareRel s k t) (h0 : bareN (s.drop t) = 0) (hkt : k < t) (ht : t < s.length) (hc : s[t] = 34) (hn : s[t - 1]'(by omega) = 58) (hf : 0 < fieldQ ((s.take (t - 1)).drop k)) : bareQ k (s.drop k) = quoQ k t (s.drop (t + 1)) (fieldQ ((s.take (t - 1)).drop k)) ((s.take t).drop k) := by
  have h1 := bare_text h h0
  have h2 := bare_len h h0
  have h3 := bare_last hkt (Nat.le_of_lt ht)
  unfold bareQ
  dsimp only
  rw [h2.1, List.drop_drop, show k + (t - k) = t by omega, h1, List.drop_eq_getElem_cons ht, hc]
  show (if (List.drop k (List.take t s)).getLast? = some 58 ∧ 0 < fieldQ (List.drop k (List.take t s)).dropLast then quoQ k t (List.drop (t + 1) s) (fieldQ (List.drop k (List.take t s)).dropLast) (List.drop k (List.take t s)) else _) = _
  rw [h3.1, h3.2, hn, if_pos ⟨rfl, hf⟩]
/-- A quoted string by its bytes: closed, with r = t ++ 34 :: _, or not. -/
theorem quo_bad {src a f : Nat} {r raw : List UInt8} (h : 34 ∉ r) : quoQ src a r f raw = ⟨a, a, .bad⟩ := by
  unfold quoQ
  rw [if_neg h]
theorem quo_ok {src a f : Nat} {r raw t u : List UInt8} (h : r = t ++ 34 :: u) (ht : 34 ∉ t) : quoQ src a r f raw = ⟨src, a + t.length + 2, .quo t f raw⟩ := by
  have h1 : 34 ∈ r := by rw [h]; simp
  have h2 : r.takeWhile (· != 34) = t := by
    rw [h, List.takeWhile_append_of_pos (fun c hc => by
      have : c ≠ 34 := fun e => ht (e ▸ hc)
      simpa using this), List.takeWhile_cons_of_neg (by decide), List.append_nil]
  unfold quoQ
  rw [if_pos h1, h2]
end Go.Proofs.YtomcdhmcjndioaaGreatDoor
end
section
namespace Go.Proofs.YtomcdhmcjndioaaGreatDoor
open Go.RowKit
set_option linter.unusedVariables false

/-- Block b begins with the bytes l; they are not frozen. -/
def ByteRow (w : World) (b : Nat) (l : List UInt8) : Prop :=
  ∃ C T fr, w.heap[b]? = some (.cells C T fr) ∧ (∀ j (hj : j < l.length), C[j]? = some (.int .u8 (l[j].toNat : Int))) ∧ (l.length ≤ fr.1 ∨ fr = (0, 0))
section
variable {w w' : World} {b : Nat} {l : List UInt8}
theorem ByteRow.lt (h : ByteRow w b l) : b < w.heap.size := by
  obtain ⟨C, T, fr, h1, _⟩ := h
  exact heap_lt h1
theorem ByteRow.kept (h : ByteRow w b l) (hb : w'.heap[b]? = w.heap[b]?) : ByteRow w' b l := by
  obtain ⟨C, T, fr, h1, h2⟩ := h
  exact ⟨C, T, fr, hb.trans h1, h2⟩
theorem ByteRow.drew (h : ByteRow w b l) : ByteRow w.drew b l := h
theorem ByteRow.cell (h : ByteRow w b l) {j : Nat} (hj : j < l.length) : w.cell? ⟨b, j, none⟩ = some (.int .u8 (l[j].toNat : Int)) := by
  obtain ⟨C, T, fr, h1, h2, _⟩ := h
  rw [← h2 j hj]
  unfold World.cell?
  rw [h1]
  simp
theorem ByteRow.free (h : ByteRow w b l) {j : Nat} (hj : j < l.length) : w.frozen? ⟨b, j, none⟩ = false := by
  obtain ⟨C, T, fr, h1, h2, h3⟩ := h
  unfold World.frozen?
  rw [h1]
  rcases h3 with h3 | rfl
  · simp; omega
  · simp
theorem ByteRow.set (h : ByteRow w b l) {k : Nat} (hk : k < l.length) (c : UInt8) : ByteRow (w.setCell ⟨b, k, none⟩ (.int .u8 (c.toNat : Int))) b (l.set k c) := by
  obtain ⟨C, T, fr, h1, h2, h3⟩ := h
  refine ⟨C.setIfInBounds k (.int .u8 (c.toNat : Int)), T, fr, ?_, fun j hj => ?_, by simpa using h3⟩
  · rw [setCell_eq_setRow w b k C T fr _ h1]
    exact setRow_heap w b C _ T _ h1
  · rw [List.length_set] at hj
    rw [Array.getElem?_setIfInBounds, List.getElem_set]
    by_cases e : k = j
    · subst e
      have := h2 k hk
      have hlt : k < C.size := (Array.getElem?_eq_some_iff.1 this).1
      simp [hlt]
    · rw [if_neg e, if_neg e]
      exact h2 j hj
theorem ByteRow.of_string (w : World) (l : List UInt8) (cap : Nat) (T : TypeId) (m : Nat) (hm : l.length ≤ m) : ByteRow (w.alloc (.cells (bytesRow (ba l) cap) T (m, m + 1))) w.heap.size l := by
  refine ⟨bytesRow (ba l) cap, T, (m, m + 1), ?_, fun j hj => ?_, .inl hm⟩
  · show (w.heap.push _)[w.heap.size]? = _
    simp
  · exact bytesRow_at (ba l) cap j (by simpa [ba] using hj)
theorem ByteRow.zeros (w : World) (n m : Nat) (T : TypeId) (hm : n ≤ m) : ByteRow (w.alloc (.cells (Array.replicate m (.int .u8 0)) T)) w.heap.size (List.replicate n 0) := by
  refine ⟨Array.replicate m (.int .u8 0), T, (0, 0), ?_, fun j hj => ?_, .inr rfl⟩
  · show (w.heap.push _)[w.heap.size]? = _
    simp
  · rw [List.length_replicate] at hj
    rw [List.getElem_replicate, Array.getElem?_replicate, if_pos (by omega)]
    rfl
theorem ByteRow.cells (h : ByteRow w b l) : ∀ j (hj : j < l.length), w.cell? (Addr.add ⟨b, 0, none⟩ j) = some (.int .u8 (l[j].toNat : Int)) := fun j hj => by
  have e : Addr.add ⟨b, 0, none⟩ j = ⟨b, j, none⟩ := by
    unfold Addr.add
    split
    · rename_i h0; rw [h0]
    · rw [Nat.zero_add]
  rw [e]
  exact h.cell hj
end
theorem bytesRow_size (s : ByteArray) (cap : Nat) (h : s.size ≤ cap) : (bytesRow s cap).size = cap := by
  unfold bytesRow
  rw [Array.size_append, Array.size_map, Array.size_replicate]
  have : s.data.size = s.size := rfl
  omega
end Go.Proofs.YtomcdhmcjndioaaGreatDoor
end
section
namespace Go.Proofs.YtomcdhmcjndioaaGreatDoor
open Go.RowKit
set_option linter.unusedVariables false

/-- A string handed back; what was there stands. -/
def StrB (w : World) (l : List UInt8) (e : Ending) (w' : World) : Prop := e = .returned (.string (ba l)) ∧ Below w.heap.size w w'
theorem smallB_yes {c : UInt8} (h : 65 ≤ (c.toNat : Int) ∧ (c.toNat : Int) ≤ 90) : smallB c = UInt8.ofNat (c.toNat + 32) := by
  unfold smallB
  have h1 : 65 ≤ c ∧ c ≤ 90 := by
    rw [UInt8.le_iff_toNat_le, UInt8.le_iff_toNat_le]
    show (65 : Nat) ≤ _ ∧ _ ≤ (90 : Nat)
    omega
  rw [if_pos h1]
  apply UInt8.toNat_inj.1
  rw [UInt8.toNat_add]
  simp
theorem smallB_no {c : UInt8} (h : ¬ (65 ≤ (c.toNat : Int) ∧ (c.toNat : Int) ≤ 90)) : smallB c = c := by
  unfold smallB
  have h1 : ¬ (65 ≤ c ∧ c ≤ 90) := by
    rw [UInt8.le_iff_toNat_le, UInt8.le_iff_toNat_le]
    show ¬ ((65 : Nat) ≤ _ ∧ _ ≤ (90 : Nat))
    omega
  rw [if_neg h1]
/-- The state of the loop: k bytes are done. -/
structure SmRel (w : World) (l : List UInt8) (k : Nat) (wr : World) : Prop where
  row : ByteRow wr w.heap.size (smallP (l.take k) ++ l.drop k)
  bel : Below w.heap.size w wr
theorem sm_len (l : List UInt8) (k : Nat) : (smallP (l.take k) ++ l.drop k).length = l.length := by
  rw [List.length_append, smallP_len, List.length_take, List.length_drop]
  omega
theorem sm_get {l : List UInt8} {k : Nat} (hk : k < l.length) (h : k < (smallP (l.take k) ++ l.drop k).length) : (smallP (l.take k) ++ l.drop k)[k] = l[k] := by
  rw [List.getElem_append_right (by rw [smallP_len, List.length_take]; omega)]
  simp only [smallP_len, List.length_take, List.getElem_drop]
  congr 1
  omega
theorem sm_step {l : List UInt8} {k : Nat} (hk : k < l.length) : smallP (l.take (k + 1)) ++ l.drop (k + 1) = (smallP (l.take k) ++ l.drop k).set k (smallB l[k]) := by
  rw [List.take_succ_eq_append_getElem hk]
  have e1 : smallP (l.take k ++ [l[k]]) = smallP (l.take k) ++ [smallB l[k]] := by unfold smallP; rw [List.map_append]; rfl
  have e2 : l.drop k = l[k] :: l.drop (k + 1) := List.drop_eq_getElem_cons hk
  have e3 : k - (smallP (l.take k)).length = 0 := by rw [smallP_len, List.length_take]; omega
  rw [e1, List.set_append_right _ _ (by rw [smallP_len, List.length_take]; omega), e3]
  conv => rhs; rw [e2]
  rw [List.append_assoc]
  rfl
theorem sm_same {l : List UInt8} {k : Nat} (hk : k < l.length) (h : smallB l[k] = l[k]) : smallP (l.take (k + 1)) ++ l.drop (k + 1) = smallP (l.take k) ++ l.drop k := by
  rw [sm_step hk, h]
  have h1 : k < (smallP (l.take k) ++ l.drop k).length := by rw [sm_len]; exact hk
  have := sm_get hk h1
  rw [← this, List.set_getElem_self]
set_option maxRecDepth 100000 in
set_option maxHeartbeats 4000000 in
theorem qsmall_any (l : List UInt8) (w : World) (hl : l.length ≤ 1000000000) :
    Calls Tryz.prog 49 #[.string (ba l)] w (StrB w (smallP l)) := by
  have hcv := fun (W : World) (S : ByteArray) => run_bytes_of_string (P := Tryz.prog) W 9 93 5 S Tryz.underlying9 Tryz.underlying93 Tryz.underlying5
  have HR0 := Lib.hid (fun (cap m : Nat) (hm : l.length ≤ m) => ByteRow.of_string w l cap 5 m hm)
  obtain ⟨n, hn⟩ : ∃ n, l.length = n := ⟨_, rfl⟩
  have HL := Lib.hid hn
  obtain ⟨s, hs⟩ : ∃ s, ba l = s := ⟨_, rfl⟩
  have HS := Lib.hid hs
  have HZ := Lib.hid (show s.size = n by rw [← hs, ba_size, hn])
  have hsz : (s.size : Int) = n := by rw [HZ.out]
  rw [hs]
  rw [hn] at hl
  clear hs hn
  rw [HS.out] at HR0
  go_enter Tryz.func49, Tryz.ntmps49
  go_wp2
  obtain ⟨C, hC⟩ : ∃ C, grownCap w s.size 0 5 = C := ⟨_, rfl⟩
  have HCN := Lib.hid (show l.length ≤ (bytesRow s C).size by rw [bytesRow_size s C (by rw [← hC]; have := grownCap_ge w s.size 0 5; omega), ← hC, HL.out]; have := grownCap_ge w s.size 0 5; omega)
  rw [hC]
  clear hC hcv
  go_loopw [10] (fun i wr => ∃ k : Nat, k ≤ n ∧ i = .int .i64 (k : Int) ∧ Hid (SmRel w l k wr)) (fun i _ => n - (intOf i).toNat)
  case atStart =>
    refine ⟨0, Nat.zero_le _, rfl, Lib.hid ⟨?_, (Below.refl _ _).drew.alloc (Nat.le_refl _) _⟩⟩
    rw [show smallP (l.take 0) ++ l.drop 0 = l from rfl]
    exact (HR0.out C _ HCN.out).drew
  case round =>
    obtain ⟨k, hk, rfl, HR⟩ := hrel
    have hsz2 := HR.out.bel.size
    by_cases hlt : k < n
    · have hk2 : (k : Int) < (n : Int) := by omega
      have hk3 : (k : Int) < (s.size : Int) := by omega
      have hk0 : (0 : Int) ≤ (k : Int) := by omega
      have hkl : k < l.length := by rw [HL.out]; exact hlt
      have hks : k < (smallP (l.take k) ++ l.drop k).length := by rw [sm_len]; exact hkl
      have hcell := HR.out.row.cell hks
      have hfree := HR.out.row.free hks
      rw [sm_get hkl hks] at hcell
      have HST := Lib.hid (sm_step hkl)
      have HSA := Lib.hid (sm_same hkl)
      have HSET := Lib.hid (HR.out.row.set hks (smallB l[k]))
      obtain ⟨c, hc⟩ : ∃ c, l[k] = c := ⟨_, rfl⟩
      rw [hc] at hcell HST HSA HSET
      have HY := Lib.hid (smallB_yes (c := c))
      have HNO := Lib.hid (smallB_no (c := c))
      obtain ⟨x, hx⟩ : ∃ x : Int, (c.toNat : Int) = x := ⟨_, rfl⟩
      rw [hx] at hcell HY HNO
      have hx0 : 0 ≤ x := by omega
      have hx1 : x ≤ 255 := by have := c.toNat_lt; omega
      have HX := Lib.hid hx
      clear hc hkl hks hx
      by_cases e1 : 65 ≤ x
      · by_cases e2 : x ≤ 90
        · have g1 : decide (65 ≤ x) = true := decide_eq_true e1
          have g2 : decide (x ≤ 90) = true := decide_eq_true e2
          have HV := Lib.hid (show (smallB c).toNat = x + 97 - 65 by rw [HY.out ⟨e1, e2⟩]; have := HX.out; have := c.toNat_lt; simp; omega)
          go_wp2
          go_roundw
          case rel =>
            refine ⟨k + 1, by omega, by go_num, Lib.hid ⟨?_, HR.out.bel.setCell (Nat.le_refl _) _⟩⟩
            rw [HST.out]
            have := HSET.out
            rw [HV.out] at this
            exact this
          case measure => simp [intOf] <;> omega
        · have g1 : decide (65 ≤ x) = true := decide_eq_true e1
          have g2 : decide (x ≤ 90) = false := decide_eq_false e2
          have HV := Lib.hid (HSA.out (HNO.out fun h => e2 h.2))
          clear hfree
          go_wp2
          go_roundw
          case rel =>
            refine ⟨k + 1, by omega, by go_num, Lib.hid ⟨?_, HR.out.bel⟩⟩
            rw [HV.out]
            exact HR.out.row
          case measure => simp [intOf] <;> omega
      · have g1 : decide (65 ≤ x) = false := decide_eq_false e1
        have HV := Lib.hid (HSA.out (HNO.out fun h => e1 h.1))
        clear hfree
        go_wp2
        go_roundw
        case rel =>
          refine ⟨k + 1, by omega, by go_num, Lib.hid ⟨?_, HR.out.bel⟩⟩
          rw [HV.out]
          exact HR.out.row
        case measure => simp [intOf] <;> omega
    · obtain rfl : k = n := by omega
      have hrow : ByteRow wr w.heap.size (smallP l) := by
        have := HR.out.row
        rw [List.take_of_length_le (by rw [HL.out]; exact Nat.le_refl _), List.drop_of_length_le (by rw [HL.out]; exact Nat.le_refl _), List.append_nil] at this
        exact this
      have hback := run_convert_bytes_back (P := Tryz.prog) wr 93 9 5 ⟨w.heap.size, 0, none⟩ C (smallP l) Tryz.underlying93 Tryz.underlying5 Tryz.underlying9 hrow.cells
      rw [smallP_len, HL.out, ← HZ.out] at hback
      clear hrow hsz
      go_wp2
      go_ret
      exact ⟨rfl, HR.out.bel⟩
end Go.Proofs.YtomcdhmcjndioaaGreatDoor
end
section
namespace Go.Proofs.YtomcdhmcjndioaaGreatDoor
open Go.RowKit
set_option linter.unusedVariables false

theorem blankQ_int {c : UInt8} {x : Int} (h : (c.toNat : Int) = x) : blankQ c = (decide (x = 32) || decide (x = 9) || decide (x = 13) || decide (x = 10)) := by
  unfold blankQ
  have e : ∀ d : UInt8, (c == d) = decide (x = (d.toNat : Int)) := fun d => by
    rw [Bool.eq_iff_iff, beq_iff_eq, decide_eq_true_iff, ← h]
    exact ⟨fun e => by rw [e], fun e => UInt8.toNat_inj.1 (by omega)⟩
  rw [e, e, e, e]
  rfl
set_option maxRecDepth 100000 in
set_option maxHeartbeats 4000000 in
theorem rqblank_any (c : UInt8) (w : World) : Calls Tryz.prog 32 #[.int .u8 (c.toNat : Int)] w fun e w' => e = .returned (.bool (blankQ c)) ∧ w' = w := by
  obtain ⟨x, hx⟩ : ∃ x : Int, (c.toNat : Int) = x := ⟨_, rfl⟩
  have HB := Lib.hid (blankQ_int hx)
  have hx0 : 0 ≤ x := by omega
  have hx1 : x ≤ 255 := by have := c.toNat_lt; omega
  rw [hx]
  clear hx
  go_enter Tryz.func32, Tryz.ntmps32
  go_wp2
  all_goals
    go_ret
    refine ⟨?_, rfl⟩
    rw [HB.out]
    refine congrArg (fun b => Ending.returned (Value.bool b)) ?_
    rw [Bool.eq_iff_iff]
    simp
    omega
theorem qblank_idx (c : UInt8) : decide (0 ≤ Lib.indexByte [32, 9, 13, 10] c) = blankQ c := by
  unfold blankQ
  by_cases h1 : c = 32
  · subst h1; rfl
  · by_cases h2 : c = 9
    · subst h2; rfl
    · by_cases h3 : c = 13
      · subst h3; rfl
      · by_cases h4 : c = 10
        · subst h4; rfl
        · have e1 : ((32 : UInt8) == c) = false := beq_eq_false_iff_ne.2 (Ne.symm h1)
          have e2 : ((9 : UInt8) == c) = false := beq_eq_false_iff_ne.2 (Ne.symm h2)
          have e3 : ((13 : UInt8) == c) = false := beq_eq_false_iff_ne.2 (Ne.symm h3)
          have e4 : ((10 : UInt8) == c) = false := beq_eq_false_iff_ne.2 (Ne.symm h4)
          have f1 : (c == (32 : UInt8)) = false := beq_eq_false_iff_ne.2 h1
          have f2 : (c == (9 : UInt8)) = false := beq_eq_false_iff_ne.2 h2
          have f3 : (c == (13 : UInt8)) = false := beq_eq_false_iff_ne.2 h3
          have f4 : (c == (10 : UInt8)) = false := beq_eq_false_iff_ne.2 h4
          simp [Lib.indexByte, e1, e2, e3, e4, f1, f2, f3, f4]
theorem qbindex_any (c : UInt8) (w : World) : Calls Tryz.prog 41 #[.string ⟨#[32, 9, 13, 10]⟩, .int .u8 (c.toNat : Int)] w fun e w' => e = .returned (.int .i64 (Lib.indexByte [32, 9, 13, 10] c)) ∧ w' = w := by
  refine (Tryz.strings_IndexByte _ (c.toNat : Int) w).mono ?_
  rintro e w' ⟨rfl, rfl⟩
  have : (c.toNat : Int).toNat.toUInt8 = c := by simp
  rw [this]
  exact ⟨rfl, rfl⟩
set_option maxRecDepth 100000 in
set_option maxHeartbeats 4000000 in
theorem qblank_any (c : UInt8) (w : World) : Calls Tryz.prog 24 #[.int .u8 (c.toNat : Int)] w fun e w' => e = .returned (.bool (blankQ c)) ∧ w' = w := by
  have HB := Lib.hid (qblank_idx c)
  have HI := Lib.hid (fun W => qbindex_any c W)
  obtain ⟨v, hv⟩ : ∃ v, Lib.indexByte [32, 9, 13, 10] c = v := ⟨_, rfl⟩
  rw [hv] at HB HI
  clear hv
  go_enter Tryz.func24, Tryz.ntmps24
  go_wp2_with fail
  refine (HI.out w).mono ?_
  rintro e w1 ⟨rfl, rfl⟩
  go_wp2
  go_ret
  refine ⟨?_, rfl⟩
  rw [← HB.out]
  rfl
end Go.Proofs.YtomcdhmcjndioaaGreatDoor
end
