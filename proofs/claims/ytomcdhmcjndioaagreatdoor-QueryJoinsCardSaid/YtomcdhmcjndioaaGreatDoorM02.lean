/- Layer 32: the table of spans and the search in it. Layers 5 and 32: lower case of a rune; the class of a rune. Layer 5, plain: units of UTF-8, decoded, folded. Layer 32: the class of a rune. Layer 32, plain: the words of a text, by the program's way and by the reference's. Layer 7, plain: the days and their dates, by the program's way. -/
import Derived.IntWalk
import Derived.Lib.DecodeN
import Derived.Lib.RuneBytes
import Derived.Test.YtomcdhmcjndioaaGreatDoorM01
section
namespace Go.Proofs.YtomcdhmcjndioaaGreatDoor
open Go.RowKit
set_option linter.unusedVariables false

def kLo (k : Nat) : Int := ([215, 247, 8192, 11904, 12288, 12353, 12549, 12593, 13312, 19968, 44032, 55296, 63744, 65024, 65072, 65280, 65520, 126976, 131072] : List Int).getD k 0
def kHi (k : Nat) : Int := ([215, 247, 11263, 12255, 12351, 12543, 12591, 12686, 19903, 40959, 55203, 63743, 64255, 65039, 65135, 65295, 65535, 129791, 262143] : List Int).getD k 0
def kKd (k : Nat) : Int := ([0, 0, 0, 2, 0, 2, 2, 2, 2, 2, 2, 0, 2, 0, 0, 0, 0, 0, 2] : List Int).getD k 0
theorem ksorted : ∀ k, k < 19 → kLo k ≤ kHi k ∧ 0 ≤ kLo k ∧ kHi k ≤ 262143 ∧ ∀ j, j < k → kHi j < kLo k := by decide
theorem kmono (j k : Nat) (h : j ≤ k) (hk : k < 19) : kHi j ≤ kHi k := by
  rcases Nat.lt_or_ge j k with h1 | h1
  · have h2 := ksorted k hk
    have := h2.2.2.2 j h1; omega
  · have : j = k := by omega
    subst this; omega
/-- The table at an address of old memory. -/
def kCells (w : World) (B : Nat) (ad : Addr) : Prop := ad.block < B ∧ ∀ k, k < 19 → w.cell? (ad.add (k * 3)) = some (.int .i64 (kLo k)) ∧ w.cell? ⟨(ad.add (k * 3)).block, (ad.add (k * 3)).off + 1, none⟩ = some (.int .i64 (kHi k)) ∧ w.cell? ⟨(ad.add (k * 3)).block, (ad.add (k * 3)).off + 2, none⟩ = some (.int .i64 (kKd k))
/-- The variable holds the table. -/
def kSpans (w : World) (B : Nat) : Prop := 1 < B ∧ ∃ ad c, w.cell? ⟨1, 0, none⟩ = some (.slice (some ad) 19 c) ∧ kCells w B ad
theorem kCells.below {w w' : World} {B : Nat} {ad : Addr} (h : kCells w B ad) (hb : Below B w w') : kCells w' B ad := by
  refine ⟨h.1, fun k hk => ?_⟩
  obtain ⟨c0, c1, c2⟩ := h.2 k hk
  have hbl : (ad.add (k * 3)).block < B := by rw [add_block]; exact h.1
  exact ⟨(hb.cell hbl).trans c0, (hb.cell (p := ⟨(ad.add (k * 3)).block, (ad.add (k * 3)).off + 1, none⟩) hbl).trans c1, (hb.cell (p := ⟨(ad.add (k * 3)).block, (ad.add (k * 3)).off + 2, none⟩) hbl).trans c2⟩
theorem kCells.more {w : World} {B B' : Nat} {ad : Addr} (h : kCells w B ad) (hB : B ≤ B') : kCells w B' ad := ⟨Nat.lt_of_lt_of_le h.1 hB, h.2⟩
theorem kSpans.below {w w' : World} {B : Nat} (h : kSpans w B) (hb : Below B w w') : kSpans w' B := by
  obtain ⟨h0, ad, c, h1, h2⟩ := h
  exact ⟨h0, ad, c, (hb.cell (p := ⟨1, 0, none⟩) h0).trans h1, h2.below hb⟩
theorem kSpans.more {w : World} {B B' : Nat} (h : kSpans w B) (hB : B ≤ B') : kSpans w B' := by
  obtain ⟨h0, ad, c, h1, h2⟩ := h
  exact ⟨Nat.lt_of_lt_of_le h0 hB, ad, c, h1, h2.more hB⟩

theorem kcmp_lt (lo hi kd r : Int) (w : World) (h : hi < r) (h2 : lo ≤ hi) : Calls Tryz.prog 82 #[.agg #[.int .i64 lo, .int .i64 hi, .int .i64 kd], .int .i64 r] w fun e w' => e = .returned (.int .i64 (-1)) ∧ Below w.heap.size w w' := by
  have h3 : lo ≤ r := by omega
  have h4 : ¬ r ≤ hi := by omega
  have h5 : lo < r := by omega
  go_enter Tryz.func82, Tryz.ntmps82
  go_wp2_with fail
  refine (compare_lt lo r _ h5).mono ?_
  rintro e w1 ⟨rfl, rfl⟩
  go_wp2
  go_ret
  exact ⟨rfl, (Below.refl _ _).alloc (Nat.le_refl _) _⟩
theorem kcmp_gt (lo hi kd r : Int) (w : World) (h : r < lo) : Calls Tryz.prog 82 #[.agg #[.int .i64 lo, .int .i64 hi, .int .i64 kd], .int .i64 r] w fun e w' => e = .returned (.int .i64 1) ∧ Below w.heap.size w w' := by
  have h3 : ¬ lo ≤ r := by omega
  go_enter Tryz.func82, Tryz.ntmps82
  go_wp2_with fail
  refine (compare_gt lo r _ h).mono ?_
  rintro e w1 ⟨rfl, rfl⟩
  go_wp2
  go_ret
  exact ⟨rfl, (Below.refl _ _).alloc (Nat.le_refl _) _⟩
theorem kcmp_eq (lo hi kd r : Int) (w : World) (h : ¬ hi < r) (h2 : ¬ r < lo) : Calls Tryz.prog 82 #[.agg #[.int .i64 lo, .int .i64 hi, .int .i64 kd], .int .i64 r] w fun e w' => e = .returned (.int .i64 0) ∧ Below w.heap.size w w' := by
  have h3 : lo ≤ r := by omega
  have h4 : r ≤ hi := by omega
  go_enter Tryz.func82, Tryz.ntmps82
  go_wp2
  go_ret
  exact ⟨rfl, (Below.refl _ _).alloc (Nat.le_refl _) _⟩

/-- Where the search ends. -/
def kPost (w : World) (r : Int) (e : Ending) (w' : World) : Prop := ∃ i : Nat, i ≤ 19 ∧ (∀ k, k < i → kHi k < r) ∧ (∀ k, i ≤ k → k < 19 → r ≤ kHi k) ∧ e = .returned (.tuple #[.int .i64 (i : Int), .bool (decide (i < 19 ∧ kLo i ≤ r))]) ∧ Below w.heap.size w w'
def kRel (w : World) (r : Int) (i j : Nat) (wr : World) : Prop := (∀ k, k < i → kHi k < r) ∧ (∀ k, j ≤ k → k < 19 → r ≤ kHi k) ∧ Below w.heap.size w wr
set_option maxRecDepth 100000 in
set_option maxHeartbeats 4000000 in
theorem ksearch (ad : Addr) (c : Nat) (r : Int) (w : World) (h : kCells w w.heap.size ad) : Calls Tryz.prog 81 #[.slice (some ad) 19 c, .int .i64 r, .func (.func 82) #[] #[]] w (kPost w r) := by
  have H := Lib.hid h
  clear h
  go_enter Tryz.func81, Tryz.ntmps81
  go_wp2
  go_loopw [9, 10] (fun a b wr => ∃ i j : Nat, i ≤ j ∧ j ≤ 19 ∧ a = .int .i64 (i : Int) ∧ b = .int .i64 (j : Int) ∧ Hid (kRel w r i j wr)) (fun a b _ => (intOf b).toNat - (intOf a).toNat)
  case atStart => exact ⟨0, 19, by omega, Nat.le_refl _, rfl, rfl, fun k hk => by omega, fun k h1 h2 => by omega, Below.refl _ _⟩
  case round =>
    obtain ⟨i, j, hij, hj, rfl, rfl, HR⟩ := hrel
    have hsz := HR.out.2.2.size
    by_cases hlt : i < j
    · have hi2 : (i : Int) < (j : Int) := by omega
      have hmi : i ≤ (i + j) / 2 := by omega
      have hmj : (i + j) / 2 < j := by omega
      have hmn : (i + j) / 2 < 19 := by omega
      obtain ⟨c0, c1, c2⟩ := ((H.out.below HR.out.2.2).2 ((i + j) / 2) hmn)
      have HSRT := Lib.hid (ksorted ((i + j) / 2) hmn)
      by_cases hlt2 : kHi ((i + j) / 2) < r
      · have HL := Lib.hid hlt2
        clear hlt2
        go_wp2_with fail
        refine (kcmp_lt (kLo ((i + j) / 2)) (kHi ((i + j) / 2)) (kKd ((i + j) / 2)) r _ (by have := HL.out; omega) HSRT.out.1).mono ?_
        rintro e w3 ⟨rfl, hb3⟩
        have HF := Lib.hid (show kRel w r ((i + j) / 2 + 1) j w3 from ⟨fun k hk => by
          have := kmono k ((i + j) / 2) (by omega) hmn
          have := HL.out
          omega, HR.out.2.1, HR.out.2.2.trans (hb3.mono hsz)⟩)
        clear hb3
        go_wp2
        go_roundw
        case rel => exact ⟨(i + j) / 2 + 1, j, by omega, hj, int_eq (by omega), rfl, HF.out⟩
        case measure => simp [intOf] <;> omega
      · have HL := Lib.hid hlt2
        have HF : Hid (∀ w3, Below wr.heap.size wr w3 → kRel w r i ((i + j) / 2) w3) := fun w3 hb3 => ⟨HR.out.1, fun k h1 h2 => by
          have := kmono ((i + j) / 2) k h1 h2
          have := HL.out
          omega, HR.out.2.2.trans (hb3.mono hsz)⟩
        clear hlt2
        by_cases hgt : r < kLo ((i + j) / 2)
        · have HG := Lib.hid hgt
          clear hgt
          go_wp2_with fail
          refine (kcmp_gt (kLo ((i + j) / 2)) (kHi ((i + j) / 2)) (kKd ((i + j) / 2)) r _ (by have := HG.out; omega)).mono ?_
          rintro e w3 ⟨rfl, hb3⟩
          have HF2 := Lib.hid (HF.out w3 hb3)
          clear hb3
          go_wp2
          go_roundw
          case rel => exact ⟨i, (i + j) / 2, hmi, by omega, rfl, int_eq (by omega), HF2.out⟩
          case measure => simp [intOf] <;> omega
        · have HG := Lib.hid hgt
          clear hgt
          go_wp2_with fail
          refine (kcmp_eq (kLo ((i + j) / 2)) (kHi ((i + j) / 2)) (kKd ((i + j) / 2)) r _ (by have := HL.out; omega) (by have := HG.out; omega)).mono ?_
          rintro e w3 ⟨rfl, hb3⟩
          have HF2 := Lib.hid (HF.out w3 hb3)
          clear hb3
          go_wp2
          go_roundw
          case rel => exact ⟨i, (i + j) / 2, hmi, by omega, rfl, int_eq (by omega), HF2.out⟩
          case measure => simp [intOf] <;> omega
    · obtain rfl : i = j := by omega
      by_cases hin : i < 19
      · have hi2 : (i : Int) < 19 := by omega
        obtain ⟨c0, c1, c2⟩ := ((H.out.below HR.out.2.2).2 i hin)
        have hle := HR.out.2.1 i (Nat.le_refl _) hin
        have HL := Lib.hid (show ¬ kHi i < r by omega)
        clear hle
        by_cases hgt : r < kLo i
        · have HG := Lib.hid hgt
          have HD := Lib.hid (show decide (i < 19 ∧ kLo i ≤ r) = false from decide_eq_false (by omega))
          clear hgt
          go_wp2_with fail
          refine (kcmp_gt (kLo i) (kHi i) (kKd i) r _ (by have := HG.out; omega)).mono ?_
          rintro e w3 ⟨rfl, hb3⟩
          have HF2 := Lib.hid (HR.out.2.2.trans (hb3.mono hsz))
          clear hb3
          go_wp2
          go_ret2
          exact ⟨i, hj, HR.out.1, HR.out.2.1, by rw [HD.out]; rfl, HF2.out⟩
        · have HG := Lib.hid hgt
          have HD := Lib.hid (show decide (i < 19 ∧ kLo i ≤ r) = true from decide_eq_true (by omega))
          clear hgt
          go_wp2_with fail
          refine (kcmp_eq (kLo i) (kHi i) (kKd i) r _ (by have := HL.out; omega) (by have := HG.out; omega)).mono ?_
          rintro e w3 ⟨rfl, hb3⟩
          have HF2 := Lib.hid (HR.out.2.2.trans (hb3.mono hsz))
          clear hb3
          go_wp2
          go_ret2
          exact ⟨i, hj, HR.out.1, HR.out.2.1, by rw [HD.out]; rfl, HF2.out⟩
      · have hi2 : ¬ (i : Int) < 19 := by omega
        have HD := Lib.hid (show decide (i < 19 ∧ kLo i ≤ r) = false from decide_eq_false (by omega))
        go_wp2
        go_ret2
        exact ⟨i, hj, HR.out.1, HR.out.2.1, by rw [HD.out]; rfl, HR.out.2.2⟩
end Go.Proofs.YtomcdhmcjndioaaGreatDoor
end
section
namespace Go.Proofs.YtomcdhmcjndioaaGreatDoor
open Go.RowKit
set_option linter.unusedVariables false

/-- The lower case of a rune, as the reference says it. -/
def rlower (r : Int) : Int :=
  if (65 ≤ r ∧ r ≤ 90) ∨ ((192 ≤ r ∧ r ≤ 222) ∧ r ≠ 215) ∨ ((913 ≤ r ∧ r ≤ 939) ∧ r ≠ 930) ∨ (1040 ≤ r ∧ r ≤ 1071) then r + 32
  else if 1024 ≤ r ∧ r ≤ 1039 then r + 80
  else if (r % 2 = 0 ∧ ((256 ≤ r ∧ r ≤ 303) ∨ (306 ≤ r ∧ r ≤ 311) ∨ (330 ≤ r ∧ r ≤ 375))) ∨ (r % 2 ≠ 0 ∧ ((313 ≤ r ∧ r ≤ 328) ∨ (377 ≤ r ∧ r ≤ 382))) then r + 1
  else if r = 376 then 255
  else if r = 902 then 940
  else if 904 ≤ r ∧ r ≤ 906 then r + 37
  else if r = 908 then r + 64
  else if r = 910 ∨ r = 911 then r + 63
  else r
theorem rlower_low {r : Int} (h : 0 ≤ r) : 0 ≤ rlower r ∧ rlower r ≤ r + 80 := by
  unfold rlower
  repeat' split
  all_goals omega
set_option maxHeartbeats 4000000 in
theorem rlower_of {r : Int} {i : Nat} (hi : i ≤ 17) (h1 : ∀ k, k < i → fHi k < r) (h2 : ∀ k, i ≤ k → k < 17 → r ≤ fHi k) :
    rlower r = if i < 17 ∧ fLo i ≤ r then (if (r - fLo i) % fSt i = 0 then r + fMo i else r) else r := by
  have hb : ∀ k, k < 17 → fHi k = [90, 214, 222, 303, 311, 328, 375, 376, 382, 902, 906, 908, 911, 929, 939, 1039, 1071].getD k 0 := fun k _ => rfl
  have lo : 0 < i → fHi (i - 1) < r := fun h => h1 (i - 1) (by omega)
  have up : i < 17 → r ≤ fHi i := fun h => h2 i (Nat.le_refl _) h
  clear h1 h2 hb
  unfold rlower
  rcases (by omega : i = 0 ∨ i = 1 ∨ i = 2 ∨ i = 3 ∨ i = 4 ∨ i = 5 ∨ i = 6 ∨ i = 7 ∨ i = 8 ∨ i = 9 ∨ i = 10 ∨ i = 11 ∨ i = 12 ∨ i = 13 ∨ i = 14 ∨ i = 15 ∨ i = 16 ∨ i = 17) with rfl | rfl | rfl | rfl | rfl | rfl | rfl | rfl | rfl | rfl | rfl | rfl | rfl | rfl | rfl | rfl | rfl | rfl
  · have u : r ≤ (90 : Int) := up (by omega)
    show _ = if (0 : Nat) < 17 ∧ (65 : Int) ≤ r then (if (r - (65 : Int)) % (1 : Int) = 0 then r + (32 : Int) else r) else r
    clear lo up
    repeat' split
    all_goals omega
  · have l : (90 : Int) < r := lo (by omega)
    have u : r ≤ (214 : Int) := up (by omega)
    show _ = if (1 : Nat) < 17 ∧ (192 : Int) ≤ r then (if (r - (192 : Int)) % (1 : Int) = 0 then r + (32 : Int) else r) else r
    clear lo up
    repeat' split
    all_goals omega
  · have l : (214 : Int) < r := lo (by omega)
    have u : r ≤ (222 : Int) := up (by omega)
    show _ = if (2 : Nat) < 17 ∧ (216 : Int) ≤ r then (if (r - (216 : Int)) % (1 : Int) = 0 then r + (32 : Int) else r) else r
    clear lo up
    repeat' split
    all_goals omega
  · have l : (222 : Int) < r := lo (by omega)
    have u : r ≤ (303 : Int) := up (by omega)
    show _ = if (3 : Nat) < 17 ∧ (256 : Int) ≤ r then (if (r - (256 : Int)) % (2 : Int) = 0 then r + (1 : Int) else r) else r
    clear lo up
    repeat' split
    all_goals omega
  · have l : (303 : Int) < r := lo (by omega)
    have u : r ≤ (311 : Int) := up (by omega)
    show _ = if (4 : Nat) < 17 ∧ (306 : Int) ≤ r then (if (r - (306 : Int)) % (2 : Int) = 0 then r + (1 : Int) else r) else r
    clear lo up
    repeat' split
    all_goals omega
  · have l : (311 : Int) < r := lo (by omega)
    have u : r ≤ (328 : Int) := up (by omega)
    show _ = if (5 : Nat) < 17 ∧ (313 : Int) ≤ r then (if (r - (313 : Int)) % (2 : Int) = 0 then r + (1 : Int) else r) else r
    clear lo up
    repeat' split
    all_goals omega
  · have l : (328 : Int) < r := lo (by omega)
    have u : r ≤ (375 : Int) := up (by omega)
    show _ = if (6 : Nat) < 17 ∧ (330 : Int) ≤ r then (if (r - (330 : Int)) % (2 : Int) = 0 then r + (1 : Int) else r) else r
    clear lo up
    repeat' split
    all_goals omega
  · have l : (375 : Int) < r := lo (by omega)
    have u : r ≤ (376 : Int) := up (by omega)
    show _ = if (7 : Nat) < 17 ∧ (376 : Int) ≤ r then (if (r - (376 : Int)) % (1 : Int) = 0 then r + (-121 : Int) else r) else r
    clear lo up
    repeat' split
    all_goals omega
  · have l : (376 : Int) < r := lo (by omega)
    have u : r ≤ (382 : Int) := up (by omega)
    show _ = if (8 : Nat) < 17 ∧ (377 : Int) ≤ r then (if (r - (377 : Int)) % (2 : Int) = 0 then r + (1 : Int) else r) else r
    clear lo up
    repeat' split
    all_goals omega
  · have l : (382 : Int) < r := lo (by omega)
    have u : r ≤ (902 : Int) := up (by omega)
    show _ = if (9 : Nat) < 17 ∧ (902 : Int) ≤ r then (if (r - (902 : Int)) % (1 : Int) = 0 then r + (38 : Int) else r) else r
    clear lo up
    repeat' split
    all_goals omega
  · have l : (902 : Int) < r := lo (by omega)
    have u : r ≤ (906 : Int) := up (by omega)
    show _ = if (10 : Nat) < 17 ∧ (904 : Int) ≤ r then (if (r - (904 : Int)) % (1 : Int) = 0 then r + (37 : Int) else r) else r
    clear lo up
    repeat' split
    all_goals omega
  · have l : (906 : Int) < r := lo (by omega)
    have u : r ≤ (908 : Int) := up (by omega)
    show _ = if (11 : Nat) < 17 ∧ (908 : Int) ≤ r then (if (r - (908 : Int)) % (1 : Int) = 0 then r + (64 : Int) else r) else r
    clear lo up
    repeat' split
    all_goals omega
  · have l : (908 : Int) < r := lo (by omega)
    have u : r ≤ (911 : Int) := up (by omega)
    show _ = if (12 : Nat) < 17 ∧ (910 : Int) ≤ r then (if (r - (910 : Int)) % (1 : Int) = 0 then r + (63 : Int) else r) else r
    clear lo up
    repeat' split
    all_goals omega
  · have l : (911 : Int) < r := lo (by omega)
    have u : r ≤ (929 : Int) := up (by omega)
    show _ = if (13 : Nat) < 17 ∧ (913 : Int) ≤ r then (if (r - (913 : Int)) % (1 : Int) = 0 then r + (32 : Int) else r) else r
    clear lo up
    repeat' split
    all_goals omega
  · have l : (929 : Int) < r := lo (by omega)
    have u : r ≤ (939 : Int) := up (by omega)
    show _ = if (14 : Nat) < 17 ∧ (931 : Int) ≤ r then (if (r - (931 : Int)) % (1 : Int) = 0 then r + (32 : Int) else r) else r
    clear lo up
    repeat' split
    all_goals omega
  · have l : (939 : Int) < r := lo (by omega)
    have u : r ≤ (1039 : Int) := up (by omega)
    show _ = if (15 : Nat) < 17 ∧ (1024 : Int) ≤ r then (if (r - (1024 : Int)) % (1 : Int) = 0 then r + (80 : Int) else r) else r
    clear lo up
    repeat' split
    all_goals omega
  · have l : (1039 : Int) < r := lo (by omega)
    have u : r ≤ (1071 : Int) := up (by omega)
    show _ = if (16 : Nat) < 17 ∧ (1040 : Int) ≤ r then (if (r - (1040 : Int)) % (1 : Int) = 0 then r + (32 : Int) else r) else r
    clear lo up
    repeat' split
    all_goals omega
  · have l : (1071 : Int) < r := lo (by omega)
    rw [if_neg (by omega : ¬ (17 < 17 ∧ fLo 17 ≤ r))]
    clear lo up
    repeat' split
    all_goals omega
theorem fbounds : ∀ k, k < 17 → 0 ≤ fLo k ∧ fLo k ≤ 1040 ∧ 1 ≤ fSt k ∧ fSt k ≤ 2 ∧ -121 ≤ fMo k ∧ fMo k ≤ 80 ∧ 0 ≤ fLo k + fMo k := by decide
set_option maxRecDepth 100000 in
set_option maxHeartbeats 4000000 in
theorem lower_any (r : Int) (w : World) (hs : fSpans w w.heap.size) (h0 : 0 ≤ r) (h1 : r ≤ 1114111) : Calls Tryz.prog 80 #[.int .i32 r] w fun e w' => e = .returned (.int .i32 (rlower r)) ∧ Below w.heap.size w w' := by
  obtain ⟨hg, ad, c, hc, hcells⟩ := hs
  have HG := Lib.hid hg
  have HC := Lib.hid hc
  have HCL := Lib.hid hcells
  clear hcells hg
  go_enter Tryz.func80, Tryz.ntmps80
  go_wp2_with fail
  refine (fsearch ad c r w HCL.out).mono ?_
  rintro e w1 ⟨i, hi, hlt, hge, rfl, hb⟩
  have HR := Lib.hid (rlower_of hi hlt hge)
  have HB := Lib.hid hb
  clear hlt hge hb hc
  by_cases hf : i < 17 ∧ fLo i ≤ r
  · rw [decide_eq_true hf]
    have hbd := fbounds i hf.1
    obtain ⟨c0, c1, c2, c3⟩ := (HCL.out.below HB.out).2 i hf.1
    have hg1 := (HB.out.cell (p := ⟨3, 0, none⟩) HG.out).trans HC.out
    have HR2 := Lib.hid (show rlower r = if (r - fLo i) % fSt i = 0 then r + fMo i else r by rw [HR.out, if_pos hf])
    obtain ⟨lo, hlo⟩ : ∃ x, fLo i = x := ⟨_, rfl⟩
    obtain ⟨st, hst⟩ : ∃ x, fSt i = x := ⟨_, rfl⟩
    obtain ⟨mo, hmo⟩ : ∃ x, fMo i = x := ⟨_, rfl⟩
    rw [hlo] at c0 hbd hf HR2
    rw [hst] at c2 hbd HR2
    rw [hmo] at c3 hbd HR2
    have hi2 : (i : Int) < 17 := by omega
    have hi3 : i < 17 := hf.1
    have hle : lo ≤ r := hf.2
    obtain ⟨m, hm⟩ : ∃ m, (r - lo).tmod st = m := ⟨_, rfl⟩
    have hme : m = (r - lo) % st := by rw [← hm]; exact Int.tmod_eq_emod_of_nonneg (by omega)
    have hm0 : 0 ≤ m ∧ m ≤ 1 := by
      rw [hme]
      rcases (by omega : st = 1 ∨ st = 2) with h | h <;> rw [h] <;> omega
    have HME := Lib.hid hme
    have w1' : IntKind.i32.wrap (r - lo) = r - lo := IntWalk.i32_in _ (by omega)
    have w2' : IntKind.i32.wrap m = m := IntWalk.i32_in _ (by omega)
    have hst0 : ¬ st = 0 := by omega
    have hst1 : (st == 0) = false := by simpa using hst0
    have HBD := Lib.hid hbd
    clear hf hlo hst hmo hme
    by_cases hz : m = 0
    · have HF := Lib.hid (show rlower r = r + mo by rw [HR2.out, if_pos (by rw [← HME.out]; exact hz)])
      have hne : (m != 0) = false := by simpa using hz
      have HZ := Lib.hid hz
      clear hz
      go_wp2
      go_quiet (fail)
      clear w1' w2' hm
      go_wp2
      go_ret
      exact ⟨by rw [HF.out]; rfl, Below.drewN HB.out _⟩
    · have HF := Lib.hid (show rlower r = r by rw [HR2.out, if_neg (by rw [← HME.out]; exact hz)])
      have hne : (m != 0) = true := by simpa using hz
      have HZ := Lib.hid hz
      clear hz
      go_wp2
      go_quiet (fail)
      clear w1' w2' hm
      go_wp2
      go_ret
      exact ⟨by rw [HF.out]; rfl, Below.drewN HB.out _⟩
  · rw [decide_eq_false hf]
    have HF := Lib.hid (show rlower r = r by rw [HR.out, if_neg hf])
    clear hf
    go_wp2
    go_quiet (fail)
    go_wp2
    go_ret
    exact ⟨by rw [HF.out]; rfl, Below.drewN HB.out _⟩
end Go.Proofs.YtomcdhmcjndioaaGreatDoor
end
section
namespace Go.Proofs.YtomcdhmcjndioaaGreatDoor
set_option linter.unusedVariables false

set_option maxHeartbeats 4000000 in
/-- One unit, folded. -/
def foldU (l : List UInt8) : List UInt8 :=
  if (uN l).2 = 1 then (if bt l 0 < 128 then [UInt8.ofNat (rlower (bt l 0)).toNat] else l.take 1)
  else if (uN l).2 = 2 then [UInt8.ofNat (192 + (rlower (uN l).1).toNat / 64), UInt8.ofNat (128 + (rlower (uN l).1).toNat % 64)]
  else l.take (uN l).2
def foldL : Nat → List UInt8 → List UInt8
  | 0, _ => []
  | f + 1, l => if l = [] then [] else foldU l ++ foldL f (l.drop (uN l).2)
/-- A string in lower case. -/
def foldP (l : List UInt8) : List UInt8 := foldL l.length l
theorem foldL_fuel : ∀ (f g : Nat) (l : List UInt8), l.length ≤ f → l.length ≤ g → foldL f l = foldL g l
  | 0, 0, l, _, _ => rfl
  | 0, g + 1, l, h, _ => by
    have : l = [] := List.eq_nil_of_length_eq_zero (by omega)
    subst this; simp [foldL]
  | f + 1, 0, l, _, h => by
    have : l = [] := List.eq_nil_of_length_eq_zero (by omega)
    subst this; simp [foldL]
  | f + 1, g + 1, l, h1, h2 => by
    unfold foldL
    by_cases hl : l = []
    · rw [if_pos hl, if_pos hl]
    · rw [if_neg hl, if_neg hl]
      have := uN_pos l hl
      rw [foldL_fuel f g (l.drop (uN l).2) (by rw [List.length_drop]; omega) (by rw [List.length_drop]; omega)]
theorem foldP_nil : foldP [] = [] := rfl
theorem foldP_cons {l : List UInt8} (h : l ≠ []) : foldP l = foldU l ++ foldP (l.drop (uN l).2) := by
  have hp := uN_pos l h
  have hl : l.length = (l.length - 1) + 1 := by have := List.length_pos_iff.2 h; omega
  unfold foldP
  rw [hl]
  conv => lhs; unfold foldL
  rw [if_neg h, foldL_fuel (l.length - 1) (l.drop (uN l).2).length (l.drop (uN l).2) (by rw [List.length_drop]; omega) (Nat.le_refl _)]
theorem foldU_len (l : List UInt8) (h : l ≠ []) : (foldU l).length = (uN l).2 := by
  have hp := uN_pos l h
  unfold foldU
  split
  · rename_i h1
    split
    · simp [h1]
    · simp [h1]; omega
  · split
    · rename_i h2; simp [h2]
    · simp; omega
theorem foldP_len : ∀ (n : Nat) (l : List UInt8), l.length ≤ n → (foldP l).length = l.length
  | 0, l, h => by
    have : l = [] := List.eq_nil_of_length_eq_zero (by omega)
    subst this; rfl
  | n + 1, l, h => by
    by_cases hl : l = []
    · subst hl; rfl
    · have hp := uN_pos l hl
      rw [foldP_cons hl, List.length_append, foldU_len l hl, foldP_len n _ (by rw [List.length_drop]; omega), List.length_drop]
      omega
theorem rlower_128 {r : Int} (h0 : 0 ≤ r) (h1 : r ≤ 127) : 0 ≤ rlower r ∧ rlower r ≤ 127 := by
  unfold rlower; repeat' split
  all_goals omega
theorem rlower_two {r : Int} (h0 : 128 ≤ r) (h1 : r ≤ 2047) : 128 ≤ rlower r ∧ rlower r ≤ 2047 := by
  unfold rlower; repeat' split
  all_goals omega
theorem rlower_high {r : Int} (h0 : 1072 ≤ r) : rlower r = r := by
  unfold rlower; repeat' split
  all_goals omega
theorem take_bt {l : List UInt8} {n : Nat} (h : n ≤ l.length) : l.take n = (List.range n).map fun i => UInt8.ofNat (bt l i) := by
  apply List.ext_getElem
  · simp; omega
  · intro i h1 h2
    have hi : i < l.length := by simp at h1; omega
    simp [bt, hi]
theorem byte_of {x : Int} {n : Nat} (h : x = n) : x.toNat.toUInt8 = UInt8.ofNat n := by rw [h]; rfl
theorem uN_repl {l : List UInt8} (h : [239, 191, 189] <+: l) : uN l = (65533, 3) := by
  obtain ⟨t, rfl⟩ := h
  have h0 : bt ([239, 191, 189] ++ t) 0 = 239 := rfl
  have h1 : bt ([239, 191, 189] ++ t) 1 = 191 := rfl
  have h2 : bt ([239, 191, 189] ++ t) 2 = 189 := rfl
  unfold uN
  rw [h0, h1, h2]
  generalize bt ([239, 191, 189] ++ t) 3 = x
  have hn : ([239, 191, 189] ++ t : List UInt8).length = t.length + 3 := by simp
  rw [hn]
  unfold Lib.decodeN
  rw [if_neg (by omega), if_neg (by omega), if_pos (by omega), if_pos (by omega)]
/-- The program's step: what it writes of a rune. -/
theorem step_fold {l : List UInt8} (h : l ≠ []) : (if (uN l).1 = 65533 ∧ ¬ [239, 191, 189] <+: l then l.take 1 else Lib.encodeRune (rlower (uN l).1)) = foldU l := by
  have hp := uN_pos l h
  have b0 := bt_lt l 0; have b1 := bt_lt l 1; have b2 := bt_lt l 2; have b3 := bt_lt l 3
  have ht := take_bt (l := l) (n := (uN l).2) hp.2.1
  rcases uN_cases l h with ⟨hn, hr⟩ | ⟨hn, h1, h2, h3, hr, h4⟩ | ⟨hn, h1, h2, h3, h4, hr, h5, h6⟩ | ⟨hn, h1, h2, h3, h4, h5, hr, h6, h7⟩
  · unfold foldU
    rw [if_pos hn]
    rcases hr with ⟨hb, hr⟩ | ⟨hb, hr⟩
    · rw [if_neg (by rw [hr]; omega), if_pos hb, hr]
      have hl := rlower_128 (r := (bt l 0 : Int)) (by omega) (by omega)
      unfold Lib.encodeRune
      rw [Lib.encodeRuneZ_one hl.1 hl.2]
      rfl
    · rw [if_neg (by omega : ¬ bt l 0 < 128), if_pos]
      refine ⟨hr, fun hpre => ?_⟩
      rw [uN_repl hpre] at hn
      simp at hn
  · unfold foldU
    rw [if_neg (by omega), if_pos hn, if_neg (by omega)]
    have hl := rlower_two (r := ((uN l).1 : Int)) (by omega) (by omega)
    unfold Lib.encodeRune
    rw [Lib.encodeRuneZ_two hl.1 hl.2]
    simp only [List.map_cons, List.map_nil]
    rw [byte_of (n := 192 + (rlower (uN l).1).toNat / 64) (by omega), byte_of (n := 128 + (rlower (uN l).1).toNat % 64) (by omega)]
  · have hc : ¬ ((uN l).1 = 65533 ∧ ¬ [239, 191, 189] <+: l) := by
      intro hh
      have he := hh.1
      apply hh.2
      refine List.prefix_iff_eq_take.2 ?_
      show _ = l.take 3
      rw [hn] at ht
      rw [ht]
      show _ = [UInt8.ofNat (bt l 0), UInt8.ofNat (bt l 1), UInt8.ofNat (bt l 2)]
      rw [show bt l 0 = 239 by omega, show bt l 1 = 191 by omega, show bt l 2 = 189 by omega]
      rfl
    rw [if_neg hc]
    unfold foldU
    rw [if_neg (by omega), if_neg (by omega), ht, hn, rlower_high (by omega)]
    unfold Lib.encodeRune
    rw [Lib.encodeRuneZ_three (by omega)]
    simp only [List.map_cons, List.map_nil]
    rw [byte_of (n := bt l 0) (by omega), byte_of (n := bt l 1) (by omega), byte_of (n := bt l 2) (by omega)]
    rfl
  · unfold foldU
    rw [if_neg (by omega), if_neg (by omega), if_neg (by omega), ht, hn]
    rw [rlower_high (by omega)]
    unfold Lib.encodeRune
    rw [Lib.encodeRuneZ_four (by omega) (by omega)]
    simp only [List.map_cons, List.map_nil]
    rw [byte_of (n := bt l 0) (by omega), byte_of (n := bt l 1) (by omega), byte_of (n := bt l 2) (by omega), byte_of (n := bt l 3) (by omega)]
    rfl
end Go.Proofs.YtomcdhmcjndioaaGreatDoor
end
section
namespace Go.Proofs.YtomcdhmcjndioaaGreatDoor
open Go.RowKit
set_option linter.unusedVariables false

/-- The class of a rune, as the reference says it. -/
def kOwn (r : Int) : Bool := decide ((11904 ≤ r ∧ r ≤ 12255) ∨ (12353 ≤ r ∧ r ≤ 12543) ∨ (12549 ≤ r ∧ r ≤ 12591) ∨ (12593 ≤ r ∧ r ≤ 12686) ∨ (13312 ≤ r ∧ r ≤ 19903) ∨ (19968 ≤ r ∧ r ≤ 40959) ∨ (44032 ≤ r ∧ r ≤ 55203) ∨ (63744 ≤ r ∧ r ≤ 64255) ∨ (131072 ≤ r ∧ r ≤ 262143))
def kWord (r : Int) : Bool := decide ((48 ≤ r ∧ r ≤ 57) ∨ (65 ≤ r ∧ r ≤ 90) ∨ (97 ≤ r ∧ r ≤ 122))
def kNone (r : Int) : Bool := decide (r = 215 ∨ r = 247 ∨ (8192 ≤ r ∧ r ≤ 11263) ∨ (12288 ≤ r ∧ r ≤ 12351) ∨ (55296 ≤ r ∧ r ≤ 63743) ∨ (65024 ≤ r ∧ r ≤ 65039) ∨ (65072 ≤ r ∧ r ≤ 65135) ∨ (65280 ≤ r ∧ r ≤ 65295) ∨ (65520 ≤ r ∧ r ≤ 65535) ∨ (126976 ≤ r ∧ r ≤ 129791))
def kindP (r : Int) : Int := if kOwn r = true then 2 else if kWord r = true then 1 else if r < 192 ∨ 1114111 < r ∨ kNone r = true then 0 else 1
set_option maxHeartbeats 8000000 in
theorem kind_of {r : Int} {i : Nat} (hi : i ≤ 19) (h0 : 192 ≤ r) (hm : r ≤ 1114111) (h1 : ∀ k, k < i → kHi k < r) (h2 : ∀ k, i ≤ k → k < 19 → r ≤ kHi k) :
    kindP r = if i < 19 ∧ kLo i ≤ r then kKd i else 1 := by
  have lo : 0 < i → kHi (i - 1) < r := fun h => h1 (i - 1) (by omega)
  have up : i < 19 → r ≤ kHi i := fun h => h2 i (Nat.le_refl _) h
  clear h1 h2
  unfold kindP kOwn kWord kNone
  simp only [decide_eq_true_eq]
  rcases (by omega : i = 0 ∨ i = 1 ∨ i = 2 ∨ i = 3 ∨ i = 4 ∨ i = 5 ∨ i = 6 ∨ i = 7 ∨ i = 8 ∨ i = 9 ∨ i = 10 ∨ i = 11 ∨ i = 12 ∨ i = 13 ∨ i = 14 ∨ i = 15 ∨ i = 16 ∨ i = 17 ∨ i = 18 ∨ i = 19) with rfl | rfl | rfl | rfl | rfl | rfl | rfl | rfl | rfl | rfl | rfl | rfl | rfl | rfl | rfl | rfl | rfl | rfl | rfl | rfl
  · have u : r ≤ (215 : Int) := up (by omega)
    show _ = if (0 : Nat) < 19 ∧ (215 : Int) ≤ r then (0 : Int) else 1
    clear lo up
    repeat' split
    all_goals omega
  · have l : (215 : Int) < r := lo (by omega)
    have u : r ≤ (247 : Int) := up (by omega)
    show _ = if (1 : Nat) < 19 ∧ (247 : Int) ≤ r then (0 : Int) else 1
    clear lo up
    repeat' split
    all_goals omega
  · have l : (247 : Int) < r := lo (by omega)
    have u : r ≤ (11263 : Int) := up (by omega)
    show _ = if (2 : Nat) < 19 ∧ (8192 : Int) ≤ r then (0 : Int) else 1
    clear lo up
    repeat' split
    all_goals omega
  · have l : (11263 : Int) < r := lo (by omega)
    have u : r ≤ (12255 : Int) := up (by omega)
    show _ = if (3 : Nat) < 19 ∧ (11904 : Int) ≤ r then (2 : Int) else 1
    clear lo up
    repeat' split
    all_goals omega
  · have l : (12255 : Int) < r := lo (by omega)
    have u : r ≤ (12351 : Int) := up (by omega)
    show _ = if (4 : Nat) < 19 ∧ (12288 : Int) ≤ r then (0 : Int) else 1
    clear lo up
    repeat' split
    all_goals omega
  · have l : (12351 : Int) < r := lo (by omega)
    have u : r ≤ (12543 : Int) := up (by omega)
    show _ = if (5 : Nat) < 19 ∧ (12353 : Int) ≤ r then (2 : Int) else 1
    clear lo up
    repeat' split
    all_goals omega
  · have l : (12543 : Int) < r := lo (by omega)
    have u : r ≤ (12591 : Int) := up (by omega)
    show _ = if (6 : Nat) < 19 ∧ (12549 : Int) ≤ r then (2 : Int) else 1
    clear lo up
    repeat' split
    all_goals omega
  · have l : (12591 : Int) < r := lo (by omega)
    have u : r ≤ (12686 : Int) := up (by omega)
    show _ = if (7 : Nat) < 19 ∧ (12593 : Int) ≤ r then (2 : Int) else 1
    clear lo up
    repeat' split
    all_goals omega
  · have l : (12686 : Int) < r := lo (by omega)
    have u : r ≤ (19903 : Int) := up (by omega)
    show _ = if (8 : Nat) < 19 ∧ (13312 : Int) ≤ r then (2 : Int) else 1
    clear lo up
    repeat' split
    all_goals omega
  · have l : (19903 : Int) < r := lo (by omega)
    have u : r ≤ (40959 : Int) := up (by omega)
    show _ = if (9 : Nat) < 19 ∧ (19968 : Int) ≤ r then (2 : Int) else 1
    clear lo up
    repeat' split
    all_goals omega
  · have l : (40959 : Int) < r := lo (by omega)
    have u : r ≤ (55203 : Int) := up (by omega)
    show _ = if (10 : Nat) < 19 ∧ (44032 : Int) ≤ r then (2 : Int) else 1
    clear lo up
    repeat' split
    all_goals omega
  · have l : (55203 : Int) < r := lo (by omega)
    have u : r ≤ (63743 : Int) := up (by omega)
    show _ = if (11 : Nat) < 19 ∧ (55296 : Int) ≤ r then (0 : Int) else 1
    clear lo up
    repeat' split
    all_goals omega
  · have l : (63743 : Int) < r := lo (by omega)
    have u : r ≤ (64255 : Int) := up (by omega)
    show _ = if (12 : Nat) < 19 ∧ (63744 : Int) ≤ r then (2 : Int) else 1
    clear lo up
    repeat' split
    all_goals omega
  · have l : (64255 : Int) < r := lo (by omega)
    have u : r ≤ (65039 : Int) := up (by omega)
    show _ = if (13 : Nat) < 19 ∧ (65024 : Int) ≤ r then (0 : Int) else 1
    clear lo up
    repeat' split
    all_goals omega
  · have l : (65039 : Int) < r := lo (by omega)
    have u : r ≤ (65135 : Int) := up (by omega)
    show _ = if (14 : Nat) < 19 ∧ (65072 : Int) ≤ r then (0 : Int) else 1
    clear lo up
    repeat' split
    all_goals omega
  · have l : (65135 : Int) < r := lo (by omega)
    have u : r ≤ (65295 : Int) := up (by omega)
    show _ = if (15 : Nat) < 19 ∧ (65280 : Int) ≤ r then (0 : Int) else 1
    clear lo up
    repeat' split
    all_goals omega
  · have l : (65295 : Int) < r := lo (by omega)
    have u : r ≤ (65535 : Int) := up (by omega)
    show _ = if (16 : Nat) < 19 ∧ (65520 : Int) ≤ r then (0 : Int) else 1
    clear lo up
    repeat' split
    all_goals omega
  · have l : (65535 : Int) < r := lo (by omega)
    have u : r ≤ (129791 : Int) := up (by omega)
    show _ = if (17 : Nat) < 19 ∧ (126976 : Int) ≤ r then (0 : Int) else 1
    clear lo up
    repeat' split
    all_goals omega
  · have l : (129791 : Int) < r := lo (by omega)
    have u : r ≤ (262143 : Int) := up (by omega)
    show _ = if (18 : Nat) < 19 ∧ (131072 : Int) ≤ r then (2 : Int) else 1
    clear lo up
    repeat' split
    all_goals omega
  · have l : (262143 : Int) < r := lo (by omega)
    rw [if_neg (by omega : ¬ (19 < 19 ∧ kLo 19 ≤ r))]
    clear lo up
    repeat' split
    all_goals omega
theorem or32 : ∀ r : Nat, r < 192 → ((97 ≤ bits BinOp.or IntKind.i64 (r : Int) 32 ∧ bits BinOp.or IntKind.i64 (r : Int) 32 ≤ 122) ↔ (65 ≤ r ∧ r ≤ 90) ∨ (97 ≤ r ∧ r ≤ 122)) := by decide +kernel
theorem kind_low {r : Int} (h0 : 0 ≤ r) (h1 : r < 192) : kindP r = if kWord r = true then 1 else 0 := by
  unfold kindP
  rw [if_neg (by unfold kOwn; rw [decide_eq_true_eq]; omega)]
  by_cases h : kWord r = true
  · rw [if_pos h, if_pos h]
  · rw [if_neg h, if_neg h, if_pos (by omega)]
set_option maxRecDepth 100000 in
set_option maxHeartbeats 4000000 in
theorem kind_any (n : Nat) (w : World) (hs : kSpans w w.heap.size) (h1 : n ≤ 1114111) : Calls Tryz.prog 56 #[.int .i64 (n : Int)] w fun e w' => e = .returned (.int .i64 (kindP n)) ∧ Below w.heap.size w w' := by
  obtain ⟨hg, ad, c, hc, hcells⟩ := hs
  have HG := Lib.hid hg
  have HC := Lib.hid hc
  have HCL := Lib.hid hcells
  clear hcells hg
  by_cases hlow : n < 192
  · have hor := or32 n hlow
    have HK := Lib.hid (kind_low (r := (n : Int)) (by omega) (by omega))
    obtain ⟨m, hm⟩ : ∃ m, bits BinOp.or IntKind.i64 (n : Int) 32 = m := ⟨_, rfl⟩
    rw [hm] at hor
    have h2 : (n : Int) < 192 := by omega
    clear hc
    by_cases hd : 48 ≤ n ∧ n ≤ 57
    · have HF := Lib.hid (show kindP n = 1 by rw [HK.out, if_pos (by unfold kWord; rw [decide_eq_true_eq]; omega)])
      have h3 : (48 : Int) ≤ (n : Int) := by omega
      have h4 : (n : Int) ≤ 57 := by omega
      clear hd hor hlow
      go_enter Tryz.func56, Tryz.ntmps56
      go_wp2
      go_ret
      exact ⟨by rw [HF.out]; rfl, Below.refl _ _⟩
    · by_cases hw : (65 ≤ n ∧ n ≤ 90) ∨ (97 ≤ n ∧ n ≤ 122)
      · have HF := Lib.hid (show kindP n = 1 by rw [HK.out, if_pos (by unfold kWord; rw [decide_eq_true_eq]; omega)])
        obtain ⟨h5, h6⟩ := hor.2 hw
        have h3 : ¬ (n : Int) ≤ 57 := by omega
        have h4 : (48 : Int) ≤ (n : Int) := by omega
        have h7 : ¬ n ≤ 57 := by omega
        clear hd hor hlow hw
        go_enter Tryz.func56, Tryz.ntmps56
        go_wp2
        go_ret
        exact ⟨by rw [HF.out]; rfl, Below.refl _ _⟩
      · have HF := Lib.hid (show kindP n = 0 by rw [HK.out, if_neg (by unfold kWord; rw [decide_eq_true_eq]; omega)])
        have hno : ¬ (97 ≤ m ∧ m ≤ 122) := fun h => hw (hor.1 h)
        have hdi : ¬ ((48 : Int) ≤ (n : Int) ∧ (n : Int) ≤ 57) := by omega
        clear hd hor hlow hw
        by_cases ha : (48 : Int) ≤ (n : Int)
        all_goals
          have hb : (48 : Int) ≤ (n : Int) → ¬ (n : Int) ≤ 57 := fun h h' => hdi ⟨h, h'⟩
          first | (have hb2 := hb ha) | skip
          clear hb hdi
          by_cases h8 : 97 ≤ m
          all_goals
            first | (have h9 : ¬ m ≤ 122 := fun h => hno ⟨h8, h⟩) | skip
            clear hno
            go_enter Tryz.func56, Tryz.ntmps56
            go_wp2
            go_ret
            exact ⟨by rw [HF.out]; rfl, Below.refl _ _⟩
  · have h2 : ¬ (n : Int) < 192 := by omega
    have h3 : (n : Int) ≤ 1114111 := by omega
    go_enter Tryz.func56, Tryz.ntmps56
    go_wp2_with fail
    refine (ksearch ad c (n : Int) w HCL.out).mono ?_
    rintro e w1 ⟨i, hi, hlt, hge, rfl, hb⟩
    have HR := Lib.hid (kind_of hi (by omega) (by omega) hlt hge)
    have HB := Lib.hid hb
    clear hlt hge hb hc
    by_cases hf : i < 19 ∧ kLo i ≤ (n : Int)
    · rw [decide_eq_true hf]
      obtain ⟨c0, c1, c2⟩ := (HCL.out.below HB.out).2 i hf.1
      have hg1 := (HB.out.cell (p := ⟨1, 0, none⟩) HG.out).trans HC.out
      have HF := Lib.hid (show kindP n = kKd i by rw [HR.out, if_pos hf])
      obtain ⟨kd, hkd⟩ : ∃ x, kKd i = x := ⟨_, rfl⟩
      rw [hkd] at c2 HF
      have hi2 : (i : Int) < 19 := by omega
      have hi3 : i < 19 := hf.1
      clear hf hkd
      go_wp2
      go_ret
      exact ⟨by rw [HF.out]; rfl, HB.out⟩
    · rw [decide_eq_false hf]
      have HF := Lib.hid (show kindP n = 1 by rw [HR.out, if_neg hf])
      clear hf
      go_wp2
      go_ret
      exact ⟨by rw [HF.out]; rfl, HB.out⟩
end Go.Proofs.YtomcdhmcjndioaaGreatDoor
end
section
namespace Go.Proofs.YtomcdhmcjndioaaGreatDoor
set_option linter.unusedVariables false

def wEnd (f : Int) (t : Nat) (ws : List (Nat × Nat)) : List (Nat × Nat) := if 0 ≤ f then ws ++ [(f.toNat, t)] else ws
/-- The class of a unit. -/
def wKind (l : List UInt8) : Int := if (uN l).1 = 65533 then 0 else kindP (uN l).1
def wStep (l : List UInt8) (a : Nat) (f : Int) (ws : List (Nat × Nat)) : Int × List (Nat × Nat) :=
  if wKind l = 0 then (-1, wEnd f a ws)
  else if wKind l = 2 then (-1, wEnd f a ws ++ [(a, a + (uN l).2)])
  else if 0 ≤ f ∧ 40 < (a : Int) + (uN l).2 - f then (a, wEnd f a ws)
  else if f < 0 then (a, ws) else (f, ws)
def wRun : Nat → List UInt8 → Nat → Int → List (Nat × Nat) → List (Nat × Nat)
  | 0, _, a, f, ws => wEnd f a ws
  | k + 1, l, a, f, ws => if l = [] then wEnd f a ws else wRun k (l.drop (uN l).2) (a + (uN l).2) (wStep l a f ws).1 (wStep l a f ws).2
/-- Where the words of a text lie. -/
def rangesP (s : List UInt8) : List (Nat × Nat) := wRun s.length s 0 (-1) []
def wordAt (s : List UInt8) (r : Nat × Nat) : List UInt8 := foldP ((s.take r.2).drop r.1)
/-- The words of a text. -/
def listP (s : List UInt8) : List (List UInt8) := (rangesP s).map (wordAt s)
theorem wKind_cases (l : List UInt8) : wKind l = 0 ∨ wKind l = 1 ∨ wKind l = 2 := by
  unfold wKind kindP
  repeat' split
  all_goals simp
theorem wRun_end {k a : Nat} {f : Int} {ws : List (Nat × Nat)} : wRun k [] a f ws = wEnd f a ws := by
  cases k with
  | zero => rfl
  | succ k => unfold wRun; rw [if_pos rfl]
theorem wRun_fuel : ∀ (k j : Nat) (l : List UInt8) (a : Nat) (f : Int) (ws : List (Nat × Nat)), l.length ≤ k → l.length ≤ j → wRun k l a f ws = wRun j l a f ws
  | 0, j, l, a, f, ws, h, _ => by
    have : l = [] := List.eq_nil_of_length_eq_zero (by omega)
    subst this; rw [wRun_end, wRun_end]
  | k + 1, 0, l, a, f, ws, _, h => by
    have : l = [] := List.eq_nil_of_length_eq_zero (by omega)
    subst this; rw [wRun_end, wRun_end]
  | k + 1, j + 1, l, a, f, ws, h1, h2 => by
    unfold wRun
    by_cases hl : l = []
    · rw [if_pos hl, if_pos hl]
    · have hp := uN_pos l hl
      rw [if_neg hl, if_neg hl]
      exact wRun_fuel k j _ _ _ _ (by rw [List.length_drop]; omega) (by rw [List.length_drop]; omega)
/-- The run from a place on. -/
def wFrom (l : List UInt8) (a : Nat) (f : Int) (ws : List (Nat × Nat)) : List (Nat × Nat) := wRun l.length l a f ws
theorem wFrom_nil {a : Nat} {f : Int} {ws : List (Nat × Nat)} : wFrom [] a f ws = wEnd f a ws := wRun_end
theorem wFrom_cons {l : List UInt8} (h : l ≠ []) (a : Nat) (f : Int) (ws : List (Nat × Nat)) : wFrom l a f ws = wFrom (l.drop (uN l).2) (a + (uN l).2) (wStep l a f ws).1 (wStep l a f ws).2 := by
  have hp := uN_pos l h
  have hl : l.length = (l.length - 1) + 1 := by have := List.length_pos_iff.2 h; omega
  unfold wFrom
  rw [hl]
  conv => lhs; unfold wRun
  rw [if_neg h]
  exact wRun_fuel _ _ _ _ _ _ (by rw [List.length_drop]; omega) (Nat.le_refl _)

/-- The reference's step: the ranges so far, and whether the last one is open. -/
def rStep (l : List UInt8) (a : Nat) (out : List (Nat × Nat)) (opn : Bool) : List (Nat × Nat) × Bool :=
  (if wKind l = 1 ∧ opn = true ∧ (out.getLastD (0, 0)).2 - (out.getLastD (0, 0)).1 + (uN l).2 ≤ 40 then out.dropLast ++ [((out.getLastD (0, 0)).1, (out.getLastD (0, 0)).2 + (uN l).2)]
   else if 0 < wKind l then out ++ [(a, a + (uN l).2)] else out, decide (wKind l = 1))
def rRun : Nat → List UInt8 → Nat → List (Nat × Nat) → Bool → List (Nat × Nat)
  | 0, _, _, out, _ => out
  | k + 1, l, a, out, opn => if l = [] then out else rRun k (l.drop (uN l).2) (a + (uN l).2) (rStep l a out opn).1 (rStep l a out opn).2
/-- Both ways meet. -/
theorem runs_meet : ∀ (k : Nat) (l : List UInt8) (a : Nat) (f : Int) (ws out : List (Nat × Nat)) (opn : Bool), l.length ≤ k →
    (opn = true ∧ 0 ≤ f ∧ f < a ∧ out = ws ++ [(f.toNat, a)] ∨ opn = false ∧ f = -1 ∧ out = ws) → rRun k l a out opn = wRun k l a f ws
  | 0, l, a, f, ws, out, opn, hk, h => by
    show out = wEnd f a ws
    rcases h with ⟨_, h0, _, he⟩ | ⟨_, h0, he⟩
    · rw [he]; unfold wEnd; rw [if_pos h0]
    · rw [he, h0]; rfl
  | k + 1, l, a, f, ws, out, opn, hk, h => by
    unfold rRun wRun
    by_cases hl : l = []
    · rw [if_pos hl, if_pos hl]
      rcases h with ⟨_, h0, _, he⟩ | ⟨_, h0, he⟩
      · rw [he]; unfold wEnd; rw [if_pos h0]
      · rw [he, h0]; rfl
    · rw [if_neg hl, if_neg hl]
      have hp := uN_pos l hl
      refine runs_meet k _ _ _ _ _ _ (by rw [List.length_drop]; omega) ?_
      rcases wKind_cases l with h1 | h1 | h1
      · right
        unfold rStep wStep
        simp only [h1]
        refine ⟨rfl, rfl, ?_⟩
        rcases h with ⟨_, h0, _, he⟩ | ⟨_, h0, he⟩
        · rw [he]; simp [wEnd, h0]
        · rw [he, h0]; simp [wEnd]
      · left
        rcases h with ⟨ho, h0, hfa, he⟩ | ⟨ho, h0, he⟩
        · subst he
          by_cases hlong : 40 < (a : Int) + (uN l).2 - f
          · have hw : wStep l a f ws = (↑a, wEnd f a ws) := by
              unfold wStep
              rw [if_neg (by rw [h1]; decide), if_neg (by rw [h1]; decide), if_pos ⟨h0, hlong⟩]
            have hr : rStep l a (ws ++ [(f.toNat, a)]) opn = (ws ++ [(f.toNat, a)] ++ [(a, a + (uN l).2)], true) := by
              unfold rStep
              rw [List.getLastD_concat, if_neg (by rintro ⟨_, _, h⟩; simp only at h; omega), if_pos (by rw [h1]; decide)]
              simp [h1]
            rw [hw, hr]
            refine ⟨rfl, by simp only; omega, by simp only; omega, ?_⟩
            simp [wEnd, h0]
          · have hw : wStep l a f ws = (f, ws) := by
              unfold wStep
              rw [if_neg (by rw [h1]; decide), if_neg (by rw [h1]; decide), if_neg (by rintro ⟨_, h⟩; exact hlong h), if_neg (by omega)]
            have hr : rStep l a (ws ++ [(f.toNat, a)]) opn = (ws ++ [(f.toNat, a + (uN l).2)], true) := by
              unfold rStep
              rw [List.getLastD_concat, if_pos ⟨h1, ho, by simp only; omega⟩]
              simp [h1]
            rw [hw, hr]
            exact ⟨rfl, h0, by simp only; omega, rfl⟩
        · subst he
          subst h0
          have hw : wStep l a (-1) out = (↑a, out) := by
            unfold wStep
            rw [if_neg (by rw [h1]; decide), if_neg (by rw [h1]; decide), if_neg (by rintro ⟨h, _⟩; omega), if_pos (by omega)]
          have hr : rStep l a out opn = (out ++ [(a, a + (uN l).2)], true) := by
            unfold rStep
            rw [if_neg (by rintro ⟨_, h, _⟩; rw [ho] at h; cases h), if_pos (by rw [h1]; decide)]
            simp [h1]
          rw [hw, hr]
          exact ⟨rfl, by simp only; omega, by simp only; omega, by simp⟩
      · right
        unfold rStep wStep
        simp only [h1]
        refine ⟨rfl, rfl, ?_⟩
        rcases h with ⟨_, h0, _, he⟩ | ⟨_, h0, he⟩
        · rw [he]; simp [wEnd, h0]
        · rw [he, h0]; simp [wEnd]
end Go.Proofs.YtomcdhmcjndioaaGreatDoor
end
section
namespace Go.Proofs.YtomcdhmcjndioaaGreatDoor
open Go.RowKit
set_option linter.unusedVariables false

def leapQ (y : Nat) : Bool := y % 4 == 0 && (y % 100 != 0 || y % 400 == 0)
def monQ (y m : Nat) : Nat := if m = 2 then (if leapQ y then 29 else 28) else if m = 4 ∨ m = 6 ∨ m = 9 ∨ m = 11 then 30 else 31
def dateB (y m d : Nat) : Bool := decide (1 ≤ y) && decide (y ≤ 9999) && decide (1 ≤ m) && decide (m ≤ 12) && decide (1 ≤ d) && decide (d ≤ monQ y m)
/-- The days of a year ahead of a month. -/
def cumQ (y : Nat) : Nat → Nat
  | 0 => 0
  | 1 => 0
  | m + 1 => cumQ y m + monQ y m
def dayQ (y m d : Nat) : Int := 365 * ((y : Int) - 1) + ((y : Int) - 1) / 4 - ((y : Int) - 1) / 100 + ((y : Int) - 1) / 400 - 719162 + d - 1 + cumQ y m
theorem yoe_back (y i : Int) (h0 : 0 ≤ y) (h : y < 400) (hi0 : 0 ≤ i) (hi : i ≤ 365) (hl : i = 365 → (y + 1) % 4 = 0 ∧ ((y + 1) % 100 ≠ 0 ∨ y = 399)) :
    ∀ o, o = 365 * y + y / 4 - y / 100 + i → (o - o / 1460 + o / 36524 - o / 146096) / 365 = y ∧ 0 ≤ o ∧ o < 146097 := by
  intro o ho
  obtain ⟨a, b, c, hy, hb, hc, ha, ha0, hb0, hc0⟩ : ∃ a b c : Int, y = 100 * a + 4 * b + c ∧ b < 25 ∧ c < 4 ∧ a < 4 ∧ 0 ≤ a ∧ 0 ≤ b ∧ 0 ≤ c := ⟨y / 100, (y % 100) / 4, y % 4, by omega, by omega, by omega, by omega, by omega, by omega, by omega⟩
  have h4 : y / 4 = 25 * a + b := by omega
  have h100 : y / 100 = a := by omega
  rw [h4, h100] at ho
  have e1 : o = 36524 * a + 1461 * b + 365 * c + i := by omega
  have hc3 : i = 365 → c = 3 := fun e => by have := (hl e).1; omega
  have hb24 : i = 365 → c = 3 → b = 24 → a = 3 := fun e e1 e2 => by
    have h2 := (hl e).2
    subst e1 e2
    have h3 : (y + 1) % 100 = 0 := by omega
    rcases h2 with h2 | h2
    · exact absurd h3 h2
    · omega
  clear hl ho h4 h100
  have hq2 : o / 36524 - o / 146096 = a ∧ o < 146097 := by
    by_cases hz : i = 365 ∧ c = 3 ∧ b = 24
    · obtain ⟨z1, z2, z3⟩ := hz
      have := hb24 z1 z2 z3
      have : o = 146096 := by omega
      subst this
      exact ⟨by omega, by omega⟩
    · have h1 : 1461 * b + 365 * c + i < 36524 := by omega
      have h2 : o / 36524 = a := by omega
      have h3 : o / 146096 = 0 := by omega
      rw [h2, h3]; exact ⟨by omega, by omega⟩
  have hq1 : (o / 1460 = 25 * a + b ∧ i < 365) ∨ (o / 1460 = 25 * a + b + 1 ∧ c = 3 ∧ 1 ≤ i) := by
    by_cases hz : 24 * a + b + 365 * c + i < 1460
    · left
      refine ⟨by omega, ?_⟩
      by_cases h5 : i = 365
      · have := hc3 h5; omega
      · omega
    · right
      refine ⟨by omega, by omega, by omega⟩
  obtain ⟨g1, g2⟩ := hq2
  refine ⟨?_, by omega, g2⟩
  generalize o / 36524 = p at *
  generalize o / 146096 = r at *
  rcases hq1 with ⟨h1, h2⟩ | ⟨h1, h2, h3⟩ <;> rw [h1] <;> omega
/-- The program's way from a day to its date. -/
def civP (n : Int) : Int × Int × Int :=
  if n < -719162 ∨ 2932896 < n then (0, 0, 0)
  else
    let o := (n + 719468) % 146097
    let yr := (o - o / 1460 + o / 36524 - o / 146096) / 365
    let ins := o - (365 * yr + yr / 4 - yr / 100)
    let k := (5 * ins + 2) / 153
    ((n + 719468) / 146097 * 400 + yr + (if (k + 2) % 12 + 1 < 3 then 1 else 0), (k + 2) % 12 + 1, ins - (153 * k + 2) / 5 + 1)
/-- The program's way from a date to its day. -/
def cntP (y m d : Int) : Int :=
  let z := if m < 3 then y - 1 else y
  z / 400 * 146097 + z % 400 * 365 + z % 400 / 4 - z % 400 / 100 + ((153 * ((m + 9) % 12) + 2) / 5 + d - 1) - 719468
theorem era_sum (z : Int) : z / 400 * 146097 + z % 400 * 365 + z % 400 / 4 - z % 400 / 100 = 365 * z + z / 4 - z / 100 + z / 400 := by
  have h1 : z / 4 = 100 * (z / 400) + z % 400 / 4 := by omega
  have h2 : z / 100 = 4 * (z / 400) + z % 400 / 100 := by omega
  omega
/-- From the parts of a March year. -/
theorem civ_of (z mp d : Int) (hz0 : 0 ≤ z) (hm0 : 0 ≤ mp) (hm : mp ≤ 11) (hd : 1 ≤ d)
    (hl : d ≤ (if mp = 11 then (if (z + 1) % 4 = 0 ∧ ((z + 1) % 100 ≠ 0 ∨ (z + 1) % 400 = 0) then 29 else 28) else if mp = 1 ∨ mp = 3 ∨ mp = 6 ∨ mp = 8 then 30 else 31))
    (n : Int) (hn : n = z / 400 * 146097 + z % 400 * 365 + z % 400 / 4 - z % 400 / 100 + ((153 * mp + 2) / 5 + d - 1) - 719468) (hn1 : -719162 ≤ n) (hn2 : n ≤ 2932896) :
    civP n = (z + (if (mp + 2) % 12 + 1 < 3 then 1 else 0), (mp + 2) % 12 + 1, d) := by
  obtain ⟨i, hi⟩ : ∃ i, (153 * mp + 2) / 5 + d - 1 = i := ⟨_, rfl⟩
  have hd31 : d ≤ 31 := by revert hl; repeat' split <;> intro hl <;> omega
  have hk : (5 * i + 2) / 153 = mp := by
    have hd30 : mp = 1 ∨ mp = 3 ∨ mp = 6 ∨ mp = 8 → d ≤ 30 := fun h => by
      rw [if_neg (by omega), if_pos h] at hl; exact hl
    have hd29 : mp = 11 → d ≤ 29 := fun h => by
      rw [if_pos h] at hl; split at hl <;> omega
    rcases (show mp = 0 ∨ mp = 1 ∨ mp = 2 ∨ mp = 3 ∨ mp = 4 ∨ mp = 5 ∨ mp = 6 ∨ mp = 7 ∨ mp = 8 ∨ mp = 9 ∨ mp = 10 ∨ mp = 11 by omega) with h | h | h | h | h | h | h | h | h | h | h | h <;> subst h <;> first | omega | (have := hd30 (by omega); omega) | (have := hd29 rfl; omega)
  have hi0 : 0 ≤ i := by omega
  have hi5 : i ≤ 365 ∧ (i = 365 → (z + 1) % 4 = 0 ∧ ((z + 1) % 100 ≠ 0 ∨ (z + 1) % 400 = 0)) := by
    by_cases h11 : mp = 11
    · rw [if_pos h11] at hl
      subst h11
      split at hl
      · rename_i h; exact ⟨by omega, fun _ => h⟩
      · exact ⟨by omega, fun _ => by omega⟩
    · exact ⟨by omega, fun _ => by omega⟩
  obtain ⟨o, ho⟩ : ∃ o, o = 365 * (z % 400) + z % 400 / 4 - z % 400 / 100 + i := ⟨_, rfl⟩
  obtain ⟨hy, ho0, ho1⟩ := yoe_back (z % 400) i (by omega) (by omega) hi0 hi5.1 (fun e => by have := hi5.2 e; omega) o ho
  have hno : n + 719468 = z / 400 * 146097 + o := by rw [hn, hi]; omega
  have hmod : (n + 719468) % 146097 = o := by rw [hno]; omega
  have hdiv : (n + 719468) / 146097 = z / 400 := by rw [hno]; omega
  unfold civP
  rw [if_neg (by omega)]
  dsimp only
  rw [hmod, hdiv, hy]
  have hins : o - (365 * (z % 400) + z % 400 / 4 - z % 400 / 100) = i := by omega
  rw [hins, hk]
  have h1 : z / 400 * 400 + z % 400 = z := by omega
  rw [h1]
  have h2 : i - (153 * mp + 2) / 5 + 1 = d := by omega
  rw [h2]

def oneL (y : Nat) : Int := if leapQ y then 1 else 0
theorem cum_tab (y : Nat) : (cumQ y 1 : Int) = 0 ∧ (cumQ y 2 : Int) = 31 ∧ (cumQ y 3 : Int) = 59 + oneL y ∧ (cumQ y 4 : Int) = 90 + oneL y ∧ (cumQ y 5 : Int) = 120 + oneL y ∧ (cumQ y 6 : Int) = 151 + oneL y ∧ (cumQ y 7 : Int) = 181 + oneL y ∧ (cumQ y 8 : Int) = 212 + oneL y ∧ (cumQ y 9 : Int) = 243 + oneL y ∧ (cumQ y 10 : Int) = 273 + oneL y ∧ (cumQ y 11 : Int) = 304 + oneL y ∧ (cumQ y 12 : Int) = 334 + oneL y := by
  unfold oneL
  cases h : leapQ y <;> simp [cumQ, monQ, h]
theorem one_leap (y : Nat) (hy : 1 ≤ y) : ((y : Int) - 1) / 4 - ((y : Int) - 1) / 100 + ((y : Int) - 1) / 400 + oneL y = (y : Int) / 4 - (y : Int) / 100 + (y : Int) / 400 := by
  have hl : leapQ y = true ↔ (y % 4 = 0 ∧ (y % 100 ≠ 0 ∨ y % 400 = 0)) := by unfold leapQ; simp
  unfold oneL
  split
  · rename_i h
    have h2 := hl.1 h
    omega
  · rename_i h
    have h2 : ¬ (y % 4 = 0 ∧ (y % 100 ≠ 0 ∨ y % 400 = 0)) := fun e => h (hl.2 e)
    omega
theorem cnt_day (y m d : Nat) (hy : 1 ≤ y) (hm : 1 ≤ m) (hm2 : m ≤ 12) (hd : 1 ≤ d) : cntP y m d = dayQ y m d := by
  unfold cntP dayQ
  dsimp only
  have hl := one_leap y hy
  rw [era_sum]
  obtain ⟨h1, h2, h3, h4, h5, h6, h7, h8, h9, h10, h11, h12⟩ := cum_tab y
  rcases (show m = 1 ∨ m = 2 ∨ m = 3 ∨ m = 4 ∨ m = 5 ∨ m = 6 ∨ m = 7 ∨ m = 8 ∨ m = 9 ∨ m = 10 ∨ m = 11 ∨ m = 12 by omega) with h | h | h | h | h | h | h | h | h | h | h | h <;> subst h
  · rw [h1, if_pos (by decide)]; omega
  · rw [h2, if_pos (by decide)]; omega
  · rw [h3, if_neg (by decide)]; omega
  · rw [h4, if_neg (by decide)]; omega
  · rw [h5, if_neg (by decide)]; omega
  · rw [h6, if_neg (by decide)]; omega
  · rw [h7, if_neg (by decide)]; omega
  · rw [h8, if_neg (by decide)]; omega
  · rw [h9, if_neg (by decide)]; omega
  · rw [h10, if_neg (by decide)]; omega
  · rw [h11, if_neg (by decide)]; omega
  · rw [h12, if_neg (by decide)]; omega
theorem mon_le (y m : Nat) : 28 ≤ monQ y m ∧ monQ y m ≤ 31 := by
  unfold monQ
  repeat' split
  all_goals exact ⟨by omega, by omega⟩
theorem cum_le (y m : Nat) (hm : 1 ≤ m) (hm2 : m ≤ 12) : (cumQ y m : Int) + monQ y m ≤ 365 + oneL y := by
  obtain ⟨h1, h2, h3, h4, h5, h6, h7, h8, h9, h10, h11, h12⟩ := cum_tab y
  have h0 : 0 ≤ oneL y ∧ oneL y ≤ 1 := by unfold oneL; split <;> exact ⟨by omega, by omega⟩
  have hb := mon_le y m
  rcases (show m = 12 ∨ m ≤ 11 by omega) with h | h
  · subst h; rw [h12]; show 334 + oneL y + ((31 : Nat) : Int) ≤ _; omega
  · rcases (show m = 1 ∨ m = 2 ∨ m = 3 ∨ m = 4 ∨ m = 5 ∨ m = 6 ∨ m = 7 ∨ m = 8 ∨ m = 9 ∨ m = 10 ∨ m = 11 by omega) with h | h | h | h | h | h | h | h | h | h | h <;> subst h <;> omega
/-- The first day of a year. -/
def yearQ (y : Int) : Int := 365 * (y - 1) + (y - 1) / 4 - (y - 1) / 100 + (y - 1) / 400 - 719162
theorem day_year (y m d : Nat) : dayQ y m d = yearQ y + (cumQ y m + d - 1) := by unfold dayQ yearQ; omega
theorem year_mono {a b : Int} (h : a ≤ b) : yearQ a ≤ yearQ b := by
  unfold yearQ
  have h1 : (a - 1) / 100 - (a - 1) / 400 ≤ (b - 1) / 100 - (b - 1) / 400 + 0 ∨ True := Or.inr trivial
  have e1 : (a - 1) / 4 ≤ (b - 1) / 4 := by omega
  have e3 : (a - 1) / 400 ≤ (b - 1) / 400 := by omega
  have e2 : (b - 1) / 100 - (a - 1) / 100 ≤ b - a := by omega
  omega
theorem year_next (y : Nat) (hy : 1 ≤ y) : yearQ ((y : Int) + 1) = yearQ y + 365 + oneL y := by
  have := one_leap y hy
  unfold yearQ
  have : (y : Int) + 1 - 1 = y := by omega
  rw [this]; omega
theorem day_in {y m d : Nat} (h : dateB y m d = true) : yearQ y ≤ dayQ y m d ∧ dayQ y m d < yearQ ((y : Int) + 1) ∧ -719162 ≤ dayQ y m d ∧ dayQ y m d ≤ 2932896 := by
  unfold dateB at h
  simp only [Bool.and_eq_true, decide_eq_true_eq] at h
  obtain ⟨⟨⟨⟨⟨h1, h2⟩, h3⟩, h4⟩, h5⟩, h6⟩ := h
  have hc := cum_le y m h3 h4
  have hd := day_year y m d
  have hn := year_next y h1
  have hlo := year_mono (a := 1) (b := y) (by omega)
  have hhi := year_mono (a := (y : Int) + 1) (b := 10000) (by omega)
  have z1 : yearQ 1 = -719162 := by decide
  have z2 : yearQ 10000 = 2932897 := by decide
  rw [z1] at hlo
  rw [z2] at hhi
  omega
theorem civ_day {y m d : Nat} (h : dateB y m d = true) : civP (dayQ y m d) = ((y : Int), (m : Int), (d : Int)) := by
  have hin := day_in h
  unfold dateB at h
  simp only [Bool.and_eq_true, decide_eq_true_eq] at h
  obtain ⟨⟨⟨⟨⟨h1, h2⟩, h3⟩, h4⟩, h5⟩, h6⟩ := h
  have hl : leapQ y = true ↔ (y % 4 = 0 ∧ (y % 100 ≠ 0 ∨ y % 400 = 0)) := by unfold leapQ; simp
  rcases (show m < 3 ∨ 3 ≤ m by omega) with hm | hm
  · have hn : dayQ y m d = ((y : Int) - 1) / 400 * 146097 + ((y : Int) - 1) % 400 * 365 + ((y : Int) - 1) % 400 / 4 - ((y : Int) - 1) % 400 / 100 + ((153 * ((m : Int) + 9) + 2) / 5 + d - 1) - 719468 := by
      rw [← cnt_day y m d h1 h3 h4 h5]
      unfold cntP
      dsimp only
      rw [if_pos (by omega), show ((m : Int) + 9) % 12 = (m : Int) + 9 by omega]
    have hx := civ_of ((y : Int) - 1) ((m : Int) + 9) d (by omega) (by omega) (by omega) (by omega) (by
      have e : (y : Int) - 1 + 1 = y := by omega
      rw [e]
      rcases (show m = 1 ∨ m = 2 by omega) with h | h <;> subst h
      · rw [if_neg (by decide), if_neg (by decide)]
        have := mon_le y 1; omega
      · rw [if_pos (by decide)]
        unfold monQ at h6
        rw [if_pos rfl] at h6
        split
        · split at h6 <;> omega
        · rename_i hb
          rw [if_neg (fun e => hb (by have := hl.1 e; omega))] at h6
          omega) (dayQ y m d) hn (by omega) (by omega)
    rw [hx]
    rw [show ((m : Int) + 9 + 2) % 12 + 1 = m by omega, if_pos (by omega), show (y : Int) - 1 + 1 = y by omega]
  · have hn : dayQ y m d = (y : Int) / 400 * 146097 + (y : Int) % 400 * 365 + (y : Int) % 400 / 4 - (y : Int) % 400 / 100 + ((153 * ((m : Int) - 3) + 2) / 5 + d - 1) - 719468 := by
      rw [← cnt_day y m d h1 h3 h4 h5]
      unfold cntP
      dsimp only
      rw [if_neg (by omega), show ((m : Int) + 9) % 12 = (m : Int) - 3 by omega]
    have hx := civ_of (y : Int) ((m : Int) - 3) d (by omega) (by omega) (by omega) (by omega) (by
      unfold monQ at h6
      rw [if_neg (by omega)] at h6
      rw [if_neg (by omega)]
      split
      · rw [if_pos (by omega)] at h6; omega
      · rw [if_neg (by omega)] at h6; omega) (dayQ y m d) hn (by omega) (by omega)
    rw [hx]
    rw [show ((m : Int) - 3 + 2) % 12 + 1 = m by omega, if_neg (by omega), show (y : Int) + 0 = y by omega]
/-- A day that a month lacks is one of the next month. -/
theorem civ_bad {y m d : Nat} (h1 : 1 ≤ y) (h2 : y ≤ 9999) (h3 : 1 ≤ m) (h4 : m ≤ 12) (h5 : 1 ≤ d) (h6 : d ≤ 31) (h : dateB y m d = false) : civP (cntP y m d) ≠ ((y : Int), (m : Int), (d : Int)) := by
  have hd : monQ y m < d := by
    rcases (show d ≤ monQ y m ∨ monQ y m < d by omega) with h7 | h7
    · unfold dateB at h
      rw [decide_eq_true h1, decide_eq_true h2, decide_eq_true h3, decide_eq_true h4, decide_eq_true h5, decide_eq_true h7] at h
      cases h
    · exact h7
  have hm : m ≠ 12 := by rintro rfl; have : monQ y 12 = 31 := rfl; omega
  have hb := mon_le y m
  have hb2 := mon_le y (m + 1)
  have hc : dayQ y m d = dayQ y (m + 1) (d - monQ y m) := by
    rw [day_year, day_year]
    have : cumQ y (m + 1) = cumQ y m + monQ y m := by
      obtain ⟨k, rfl⟩ : ∃ k, m = k + 1 := ⟨m - 1, by omega⟩
      rfl
    omega
  have hg : dateB y (m + 1) (d - monQ y m) = true := by
    unfold dateB
    simp only [Bool.and_eq_true, decide_eq_true_eq]
    omega
  rw [cnt_day y m d h1 h3 h4 h5, hc, civ_day hg]
  intro e
  have := congrArg (·.2.1) e
  simp only at this
  omega
/-- Days, as the program and the reference say it. -/
def daysQ (y m d : Nat) : Int := if dateB y m d then dayQ y m d else 0
theorem civ_days (y m d : Nat) : civP (daysQ y m d) = ((y : Int), (m : Int), (d : Int)) ↔ dateB y m d = true := by
  unfold daysQ
  cases h : dateB y m d
  · rw [if_neg (by decide)]
    have h0 : civP 0 = (1970, 1, 1) := by decide
    rw [h0]
    constructor
    · intro e
      have e1 := congrArg (·.1) e
      have e2 := congrArg (·.2.1) e
      have e3 := congrArg (·.2.2) e
      simp only at e1 e2 e3
      obtain rfl : y = 1970 := by omega
      obtain rfl : m = 1 := by omega
      obtain rfl : d = 1 := by omega
      revert h; decide
    · intro e; cases e
  · rw [if_pos rfl, civ_day h]; simp
end Go.Proofs.YtomcdhmcjndioaaGreatDoor
end
