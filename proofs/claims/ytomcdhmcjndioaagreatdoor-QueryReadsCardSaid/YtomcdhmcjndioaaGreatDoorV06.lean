/- Layer 37: the contracts of flag and size. Layer 37: the contract of size. Layer 7, plain: what the program computes on its way from a day to its date. Layer 7: Civil, Days. Layer 37: Text, Pad, count, sized, dated at the constants that the laws' small() writes. The package variables as the rows of layer 37 lay them; a world that meets the condition. Maps of the call's own, told key by key (no range): strings as keys. -/
import Derived.Shelf.Strings.FuncGrows
import Derived.Lib.AppendIntMem
import Derived.Lib.LaidTab
import Derived.Lay
import Derived.PinnedBridge
import Derived.Stop.LaidErr
import Derived.Deep.DeepHandedRow
import Derived.ChangeMaps5
import Derived.Maps.OwnSet
import Derived.Maps.OwnOps
import Derived.Maps.Views
import Derived.WideKeyEntry
import Derived.DeepKeys4
import Derived.Test.YtomcdhmcjndioaaGreatDoorV05
import Derived.Test.YtomcdhmcjndioaaGreatDoorV03
import Derived.Test.YtomcdhmcjndioaaGreatDoorV04
import Derived.Test.YtomcdhmcjndioaaGreatDoorV01
import Derived.Test.YtomcdhmcjndioaaGreatDoorV02
section
namespace Go.Proofs.YtomcdhmcjndioaaGreatDoor
open Go.RowKit
set_option linter.unusedVariables false

set_option maxRecDepth 100000 in
set_option maxHeartbeats 4000000 in
theorem indexRune_inv (l : List UInt8) (r : Int) (h1 : 55296 ≤ r) (h2 : r ≤ 57343) (w : World) :
    Calls Tryz.prog 43 #[.string (ba l), .int .i32 r] w fun e w' => e = .returned (.int .i64 (-1)) ∧ w' = w := by
  have HV := Lib.hid (Tryz.utf8_ValidRune r)
  have HVT := Lib.hid (show Lib.validRune r = false by unfold Lib.validRune; simp; omega)
  have g1 : (r == 65533) = false := by simp; omega
  have g2 : decide (r < 128) = false := decide_eq_false (by omega)
  have g3 : decide (0 ≤ r) = true := decide_eq_true (by omega)
  obtain ⟨s, hs⟩ : ∃ s, ba l = s := ⟨_, rfl⟩
  rw [hs]
  clear hs
  go_enter Tryz.func43, Tryz.ntmps43
  go_wp2_with fail
  refine (HV.out w).mono ?_
  rintro e w1 ⟨rfl, rfl⟩
  rw [HVT.out]
  go_wp2
  go_ret
  exact ⟨rfl, rfl⟩
theorem indexRune_all (l : List UInt8) (hl : Asc l) (r : Nat) (h2 : r ≤ 1114111) (w : World) :
    Calls Tryz.prog 43 #[.string (ba l), .int .i32 (r : Int)] w fun e w' => e = .returned (.int .i64 (runeIdx l r)) ∧ Below w.heap.size w w' := by
  by_cases h3 : r < 55296 ∨ 57343 < r
  · exact indexRune_any l hl r h2 h3 w
  · refine (indexRune_inv l r (by omega) (by omega) w).mono ?_
    rintro e w' ⟨rfl, rfl⟩
    refine ⟨?_, Below.refl _ _⟩
    unfold runeIdx
    rw [if_neg (by omega)]
theorem containsRune_all (l : List UInt8) (hl : Asc l) (r : Nat) (h2 : r ≤ 1114111) (w : World) :
    Calls Tryz.prog 85 #[.string (ba l), .int .i32 (r : Int)] w fun e w' => e = .returned (.bool (decide (0 ≤ runeIdx l r))) ∧ Below w.heap.size w w' := by
  have HI := Lib.hid (indexRune_all l hl r h2)
  go_enter Tryz.func85, Tryz.ntmps85
  go_wp2_with fail
  refine (HI.out _).mono ?_
  rintro e w1 ⟨rfl, hb⟩
  have HB := Lib.hid hb
  clear hb
  go_wp2
  go_ret
  exact ⟨rfl, HB.out⟩
def signsQ : List UInt8 := [36, 92, 45, 95, 46]
/-- Whether a rune may stand in a flag. -/
def flagR (r : Nat) : Bool := (decide (97 ≤ r) && decide (r ≤ 122)) || (decide (48 ≤ r) && decide (r ≤ 57)) || decide (0 ≤ runeIdx signsQ r)
theorem flagR_byte : ∀ r : Fin 128, flagR r.val = flagC (UInt8.ofNat r.val) := by decide +kernel
theorem flagR_high {r : Nat} (h : 128 ≤ r) : flagR r = false := by
  unfold flagR runeIdx
  rw [if_neg (by omega), decide_eq_false (show ¬ r ≤ 122 by omega), decide_eq_false (show ¬ r ≤ 57 by omega)]
  simp
theorem flagC_low {c : UInt8} (h : flagC c = true) : c.toNat < 128 := by
  by_cases h2 : c.toNat < 128
  · exact h2
  · exfalso
    have key : ∀ n : Fin 128, flagC (UInt8.ofNat (128 + n.val)) = false := by decide +kernel
    have h3 := key ⟨c.toNat - 128, by have := c.toNat_lt; omega⟩
    have e : UInt8.ofNat (128 + (c.toNat - 128)) = c := by
      rw [show 128 + (c.toNat - 128) = c.toNat by omega]
      simp
    dsimp only at h3
    rw [e, h] at h3
    cases h3
theorem flag_unit {l : List UInt8} {k : Nat} (hk : k < l.length) : flagR (uN (l.drop k)).1 = flagC l[k] ∧ (flagC l[k] = true → (uN (l.drop k)).2 = 1) := by
  by_cases h : (uN (l.drop k)).1 < 128
  · obtain ⟨h1, h2⟩ := uN_byte hk h
    refine ⟨?_, fun _ => h2⟩
    have := flagR_byte ⟨(uN (l.drop k)).1, h⟩
    dsimp only at this
    rw [this, h1]
    simp
  · have hf := uN_far hk (by omega) k hk (Nat.le_refl _) (by
      have hne : l.drop k ≠ [] := by intro e; have := congrArg List.length e; rw [List.length_drop] at this; simp at this; omega
      have := (uN_pos _ hne).1
      omega)
    have hc : flagC l[k] = false := by
      cases hx : flagC l[k] with
      | false => rfl
      | true => have := flagC_low hx; omega
    rw [hc, flagR_high (by omega)]
    exact ⟨rfl, fun h => by cases h⟩
theorem flag_idx (l : List UInt8) : ∀ f pos, l.length ≤ pos + f → decide (0 ≤ Lib.idxFuncFrom (fun r => !flagR r) true (ba l) f pos) = !((l.drop pos).all flagC)
  | 0, pos, h => by
    rw [List.drop_of_length_le (by omega)]
    rfl
  | f + 1, pos, h => by
    unfold Lib.idxFuncFrom
    by_cases hp : pos < (ba l).size
    · have hk : pos < l.length := by rw [← ba_size]; exact hp
      rw [if_pos hp, uN_at]
      obtain ⟨h1, h2⟩ := flag_unit hk
      rw [List.drop_eq_getElem_cons hk, List.all_cons, ← List.drop_eq_getElem_cons hk]
      by_cases hc : flagC l[pos] = true
      · rw [h1, hc, h2 hc, if_neg (by decide), flag_idx l f (pos + 1) (by omega), Bool.true_and]
      · have hc2 : flagC l[pos] = false := by simpa using hc
        rw [h1, hc2, if_pos (by rfl), Bool.false_and]
        simp
    · rw [if_neg hp, List.drop_of_length_le (by rw [← ba_size]; omega)]
      rfl
set_option maxRecDepth 100000 in
set_option maxHeartbeats 4000000 in
theorem flag1_any (r : Nat) (h2 : r ≤ 1114111) (w : World) :
    Calls Tryz.prog 84 #[.int .i32 (r : Int)] w fun e w' => e = .returned (.bool (!flagR r)) ∧ Below w.heap.size w w' := by
  have HC := Lib.hid (show ∀ W, Calls Tryz.prog 85 #[.string ⟨#[36, 92, 45, 95, 46]⟩, .int .i32 (r : Int)] W fun e w' => e = .returned (.bool (decide (0 ≤ runeIdx signsQ r))) ∧ Below W.heap.size W w' from fun W => containsRune_all signsQ ⟨by decide, by decide, by decide⟩ r h2 W)
  obtain ⟨v, hv⟩ : ∃ v, decide (0 ≤ runeIdx signsQ r) = v := ⟨_, rfl⟩
  have HF := Lib.hid (show flagR r = ((decide (97 ≤ (r : Int)) && decide ((r : Int) ≤ 122)) || (decide (48 ≤ (r : Int)) && decide ((r : Int) ≤ 57)) || v) by
    unfold flagR
    rw [hv]
    congr 2
    · rw [show decide (97 ≤ (r : Int)) = decide (97 ≤ r) from by rw [Bool.eq_iff_iff, decide_eq_true_iff, decide_eq_true_iff]; omega, show decide ((r : Int) ≤ 122) = decide (r ≤ 122) from by rw [Bool.eq_iff_iff, decide_eq_true_iff, decide_eq_true_iff]; omega]
    · rw [show decide (48 ≤ (r : Int)) = decide (48 ≤ r) from by rw [Bool.eq_iff_iff, decide_eq_true_iff, decide_eq_true_iff]; omega, show decide ((r : Int) ≤ 57) = decide (r ≤ 57) from by rw [Bool.eq_iff_iff, decide_eq_true_iff, decide_eq_true_iff]; omega])
  simp only [hv] at HC
  obtain ⟨x, hx⟩ : ∃ x : Int, (r : Int) = x := ⟨_, rfl⟩
  simp only [hx] at HC HF
  rw [hx]
  have x0 : 0 ≤ x := by omega
  clear hv hx
  by_cases a1 : 97 ≤ x ∧ x ≤ 122
  · have g1 : decide (97 ≤ x) = true := decide_eq_true a1.1
    have g2 : decide (x ≤ 122) = true := decide_eq_true a1.2
    have HR := Lib.hid (show (!flagR r) = false by rw [HF.out, g1, g2]; rfl)
    clear a1
    go_enter Tryz.func84, Tryz.ntmps84
    go_wp2
    go_ret
    exact ⟨by rw [HR.out]; rfl, Below.refl _ _⟩
  · by_cases a2 : 48 ≤ x ∧ x ≤ 57
    · have g1 : decide (97 ≤ x) = false := decide_eq_false (by omega)
      have g2 : decide (48 ≤ x) = true := decide_eq_true a2.1
      have g3 : decide (x ≤ 57) = true := decide_eq_true a2.2
      have HR := Lib.hid (show (!flagR r) = false by rw [HF.out, g1, g2, g3]; rfl)
      clear a1 a2
      go_enter Tryz.func84, Tryz.ntmps84
      go_wp2
      go_ret
      exact ⟨by rw [HR.out]; rfl, Below.refl _ _⟩
    · have HR := Lib.hid (show flagR r = v by
        rw [HF.out]
        have e1 : (decide (97 ≤ x) && decide (x ≤ 122)) = false := by
          cases h : (decide (97 ≤ x) && decide (x ≤ 122)) with
          | false => rfl
          | true => simp at h; exact absurd h a1
        have e2 : (decide (48 ≤ x) && decide (x ≤ 57)) = false := by
          cases h : (decide (48 ≤ x) && decide (x ≤ 57)) with
          | false => rfl
          | true => simp at h; exact absurd h a2
        rw [e1, e2]
        rfl)
      by_cases b1 : x < 48
      · have g1 : decide (97 ≤ x) = false := decide_eq_false (by omega)
        have g2 : decide (48 ≤ x) = false := decide_eq_false (by omega)
        clear a1 a2 b1
        go_enter Tryz.func84, Tryz.ntmps84
        go_wp2_with fail
        refine (HC.out w).mono ?_
        rintro e w1 ⟨rfl, hb⟩
        have HB := Lib.hid hb
        clear hb
        go_wp2
        go_ret
        exact ⟨by rw [HR.out]; rfl, HB.out⟩
      · by_cases b2 : x < 97
        · have g1 : decide (97 ≤ x) = false := decide_eq_false (by omega)
          have g2 : decide (48 ≤ x) = true := decide_eq_true (by omega)
          have g3 : decide (x ≤ 57) = false := decide_eq_false (by omega)
          clear a1 a2 b1 b2
          go_enter Tryz.func84, Tryz.ntmps84
          go_wp2_with fail
          refine (HC.out w).mono ?_
          rintro e w1 ⟨rfl, hb⟩
          have HB := Lib.hid hb
          clear hb
          go_wp2
          go_ret
          exact ⟨by rw [HR.out]; rfl, HB.out⟩
        · have g1 : decide (97 ≤ x) = true := decide_eq_true (by omega)
          have g4 : decide (x ≤ 122) = false := decide_eq_false (by omega)
          have g2 : decide (48 ≤ x) = true := decide_eq_true (by omega)
          have g3 : decide (x ≤ 57) = false := decide_eq_false (by omega)
          clear a1 a2 b1 b2
          go_enter Tryz.func84, Tryz.ntmps84
          go_wp2_with fail
          refine (HC.out w).mono ?_
          rintro e w1 ⟨rfl, hb⟩
          have HB := Lib.hid hb
          clear hb
          go_wp2
          go_ret
          exact ⟨by rw [HR.out]; rfl, HB.out⟩
set_option maxRecDepth 100000 in
set_option maxHeartbeats 4000000 in
theorem qflag_any (l : List UInt8) (w : World) :
    Calls Tryz.prog 58 #[.string (ba l)] w fun e w' => e = .returned (.bool (flagQ l)) ∧ Below w.heap.size w w' := by
  have HC := Lib.hid (fun W => Tryz.strings_ContainsFunc_grows 84 #[] (fun _ _ => by rfl) (fun r => !flagR r) (ba l) W (fun W' x hx _ => flag1_any x hx W'))
  have HV := Lib.hid (show decide (0 ≤ Lib.idxFunc (fun r => !flagR r) true (ba l)) = !(l.all flagC) from flag_idx l (ba l).size 0 (by rw [ba_size]; omega))
  have HQ := Lib.hid (show flagQ l = (decide (1 ≤ l.length) && decide (l.length ≤ 30) && l.all flagC) from rfl)
  obtain ⟨v, hv⟩ : ∃ v, decide (0 ≤ Lib.idxFunc (fun r => !flagR r) true (ba l)) = v := ⟨_, rfl⟩
  simp only [hv] at HC HV
  clear hv
  by_cases h0 : l.length = 0
  · have gz : (ba l).toList.isEmpty = true := by rw [ba_toList, List.eq_nil_of_length_eq_zero h0]; rfl
    have HR := Lib.hid (show flagQ l = false by rw [HQ.out, h0]; rfl)
    clear h0
    go_enter Tryz.func58, Tryz.ntmps58
    go_wp2
    go_ret
    exact ⟨by rw [HR.out]; rfl, Below.refl _ _⟩
  · have gz : (ba l).toList.isEmpty = false := by
      rw [ba_toList]
      cases l with
      | nil => exact absurd rfl h0
      | cons a r => rfl
    by_cases h1 : l.length ≤ 30
    · have g1 : decide (((ba l).size : Int) ≤ 30) = true := decide_eq_true (by rw [ba_size]; omega)
      have HR := Lib.hid (show flagQ l = !v by rw [HQ.out, HV.out, decide_eq_true (show 1 ≤ l.length by omega), decide_eq_true h1]; simp)
      obtain ⟨s, hs⟩ : ∃ s, ba l = s := ⟨_, rfl⟩
      simp only [hs] at HC gz g1
      rw [hs]
      clear h0 h1 hs HV HQ
      go_enter Tryz.func58, Tryz.ntmps58
      go_wp2_with fail
      refine (HC.out w).mono ?_
      rintro e w1 ⟨rfl, hb⟩
      have HB := Lib.hid hb
      clear hb
      go_wp2
      go_ret
      exact ⟨by rw [HR.out]; rfl, HB.out⟩
    · have g1 : decide (((ba l).size : Int) ≤ 30) = false := decide_eq_false (by rw [ba_size]; omega)
      have HR := Lib.hid (show flagQ l = false by rw [HQ.out, decide_eq_false h1]; simp)
      obtain ⟨s, hs⟩ : ∃ s, ba l = s := ⟨_, rfl⟩
      simp only [hs] at gz g1
      rw [hs]
      clear h0 h1 hs HV HQ HC
      go_enter Tryz.func58, Tryz.ntmps58
      go_wp2
      go_ret
      exact ⟨by rw [HR.out]; rfl, Below.refl _ _⟩
end Go.Proofs.YtomcdhmcjndioaaGreatDoor
end
section
namespace Go.Proofs.YtomcdhmcjndioaaGreatDoor
open Go.RowKit
set_option linter.unusedVariables false

theorem sizeQ_eq (l : List UInt8) : sizeQ l = (decP (if 1 < timesQ l then l.dropLast else l) 0 1048576).map (· * timesQ l) := rfl
theorem or_low (c : UInt8) : (bits BinOp.or IntKind.u8 (c.toNat : Int) 32 == 107) = decide (c = 75 ∨ c = 107) ∧ (bits BinOp.or IntKind.u8 (c.toNat : Int) 32 == 109) = decide (c = 77 ∨ c = 109) := by
  have key : ∀ n : Fin 256, (bits BinOp.or IntKind.u8 ((UInt8.ofNat n.val).toNat : Int) 32 == 107) = decide (UInt8.ofNat n.val = 75 ∨ UInt8.ofNat n.val = 107) ∧ (bits BinOp.or IntKind.u8 ((UInt8.ofNat n.val).toNat : Int) 32 == 109) = decide (UInt8.ofNat n.val = 77 ∨ UInt8.ofNat n.val = 109) := by decide +kernel
  have h := key ⟨c.toNat, c.toNat_lt⟩
  simpa using h
theorem size_none {l x : List UInt8} (hx : (if 1 < timesQ l then l.dropLast else l) = x) (h : decP x 0 1048576 = none) : sizeQ l = none := by rw [sizeQ_eq, hx, h]; rfl
theorem size_some {l x : List UInt8} {v t : Int} (hx : (if 1 < timesQ l then l.dropLast else l) = x) (ht : timesQ l = t) (h : decP x 0 1048576 = some v) : sizeQ l = some (v * t) := by rw [sizeQ_eq, hx, h, ht]; rfl
theorem decP_bd {l : List UInt8} {lo hi v : Int} (h : decP l lo hi = some v) : lo ≤ v ∧ v ≤ hi := by
  rw [decP_eq] at h
  split at h
  · rename_i h1
    injection h with h
    rw [← h]
    exact h1.2
  · cases h
theorem times_last {l : List UInt8} {c : UInt8} (h : l.getLast? = some c) : timesQ l = if c = 75 ∨ c = 107 then 1024 else if c = 77 ∨ c = 109 then 1048576 else 1 := by
  unfold timesQ
  rw [h]
theorem lastQ {l : List UInt8} (h : 0 < l.length) : l.getLast? = some (l[l.length - 1]'(by omega)) := by rw [List.getLast?_eq_getElem?, List.getElem?_eq_getElem (by omega)]
set_option maxRecDepth 100000 in
set_option maxHeartbeats 4000000 in
theorem qsize_any (l : List UInt8) (w : World) (hl : l.length ≤ 1000000) (hT : QTabs w) :
    Calls Tryz.prog 88 #[.string (ba l)] w (ParsePost w (sizeQ l)) := by
  have HT := Lib.hid hT
  have HNP := Lib.hid (fun x (hx : x.length ≤ 1000000) W (hW : QTabs W) => num_parse x 0 1048576 W (by omega) (by omega) (by omega) hW)
  unfold ParsePost at HNP
  by_cases hl0 : l.length = 0
  · have gz : (ba l).toList.isEmpty = true := by rw [ba_toList, List.eq_nil_of_length_eq_zero hl0]; rfl
    have hnil := List.eq_nil_of_length_eq_zero hl0
    have HXX := Lib.hid (show (if 1 < timesQ l then l.dropLast else l) = l by rw [hnil]; rfl)
    have HTI := Lib.hid (show timesQ l = 1 by rw [hnil]; rfl)
    clear hnil hl0
    cases hd : decP l 0 1048576 with
    | none =>
      have HR := Lib.hid (size_none HXX.out hd)
      have HD := Lib.hid hd
      clear hd
      go_enter Tryz.func88, Tryz.ntmps88
      go_wp2_with fail
      refine (HNP.out l (by exact hl) w HT.out).mono ?_
      rintro e w1 ⟨rfl, hb⟩
      have HB := Lib.hid hb
      clear hb
      rw [HD.out]
      go_wp2
      go_ret2
      exact parse_none HR.out HB.out
    | some v =>
      have HR := Lib.hid (size_some HXX.out HTI.out hd)
      have HD := Lib.hid hd
      obtain ⟨v0, v1⟩ := decP_bd hd
      clear hd
      go_enter Tryz.func88, Tryz.ntmps88
      go_wp2_with fail
      refine (HNP.out l (by exact hl) w HT.out).mono ?_
      rintro e w1 ⟨rfl, hb⟩
      have HB := Lib.hid hb
      clear hb
      rw [HD.out]
      go_wp2
      go_ret2
      exact parse_some (HR.out.trans (congrArg some (by omega))) HB.out
  · have hla := lastQ (l := l) (by omega)
    obtain ⟨n, hn⟩ : ∃ n, l.length = n := ⟨_, rfl⟩
    have gz : (ba l).toList.isEmpty = false := by
      rw [ba_toList]
      cases l with
      | nil => exact absurd rfl hl0
      | cons a r => rfl
    have HCU := Lib.hid (show (ba l).extract 0 (n - 1) = ba l.dropLast by rw [ba_cut, List.drop_zero, List.dropLast_eq_take, hn])
    obtain ⟨c, hc⟩ : ∃ c, l[l.length - 1]'(by omega) = c := ⟨_, rfl⟩
    rw [hc] at hla
    have HTM := Lib.hid (times_last hla)
    obtain ⟨s, hss⟩ : ∃ s, ba l = s := ⟨_, rfl⟩
    have hsz : (s.size : Int) = n := by rw [← hss, ba_size, hn]
    obtain ⟨x, hx⟩ : ∃ x : Int, (c.toNat : Int) = x := ⟨_, rfl⟩
    obtain ⟨ks, kg⟩ : ∃ h : n - 1 < s.size, ((s[n - 1]'h).toNat : Int) = x := by
      subst hn
      refine ⟨by rw [← hss, ba_size]; omega, ?_⟩
      subst hss
      rw [← hx, ← hc]
      rfl
    simp only [hss] at gz HCU
    have hn6 : n ≤ 1000000 := by omega
    have hn1 : 1 ≤ n := by omega
    have k0 : (0 : Int) ≤ (n : Int) - 1 := by omega
    have k1 : (n : Int) - 1 < (n : Int) := by omega
    have k2 : (n : Int) - 1 ≤ (n : Int) := by omega
    have k3 : ((n : Int) - 1).toNat = n - 1 := by omega
    have x0 : 0 ≤ x := by omega
    have x1 : x ≤ 255 := by have := c.toNat_lt; omega
    have HX := Lib.hid hx
    have HSS := Lib.hid hss
    rw [hss]
    clear hla hc hss hn hx hl0
    obtain ⟨o1, o2⟩ := or_low c
    rw [HX.out] at o1 o2
    by_cases ck : c = 75 ∨ c = 107
    · rw [decide_eq_true ck] at o1
      have HTI := Lib.hid (show timesQ l = 1024 by rw [HTM.out, if_pos ck])
      have HXX := Lib.hid (show (if 1 < timesQ l then l.dropLast else l) = l.dropLast by rw [HTI.out]; rfl)
      clear ck o2
      cases hd : decP l.dropLast 0 1048576 with
      | none =>
        have HR := Lib.hid (size_none HXX.out hd)
        have HD := Lib.hid hd
        clear hd
        go_enter Tryz.func88, Tryz.ntmps88
        go_wp2_with fail
        rw [HCU.out]
        refine (HNP.out l.dropLast (by rw [List.length_dropLast]; omega) w HT.out).mono ?_
        rintro e w1 ⟨rfl, hb⟩
        have HB := Lib.hid hb
        clear hb
        rw [HD.out]
        go_wp2
        go_ret2
        exact parse_none HR.out HB.out
      | some v =>
        have HR := Lib.hid (size_some HXX.out HTI.out hd)
        have HD := Lib.hid hd
        obtain ⟨v0, v1⟩ := decP_bd hd
        clear hd
        go_enter Tryz.func88, Tryz.ntmps88
        go_wp2_with fail
        rw [HCU.out]
        refine (HNP.out l.dropLast (by rw [List.length_dropLast]; omega) w HT.out).mono ?_
        rintro e w1 ⟨rfl, hb⟩
        have HB := Lib.hid hb
        clear hb
        rw [HD.out]
        go_wp2
        go_ret2
        exact parse_some (HR.out.trans (congrArg some (by omega))) HB.out
    · rw [decide_eq_false ck] at o1
      by_cases cm : c = 77 ∨ c = 109
      · rw [decide_eq_true cm] at o2
        have HTI := Lib.hid (show timesQ l = 1048576 by rw [HTM.out, if_neg ck, if_pos cm])
        have HXX := Lib.hid (show (if 1 < timesQ l then l.dropLast else l) = l.dropLast by rw [HTI.out]; rfl)
        clear ck cm
        cases hd : decP l.dropLast 0 1048576 with
        | none =>
          have HR := Lib.hid (size_none HXX.out hd)
          have HD := Lib.hid hd
          clear hd
          go_enter Tryz.func88, Tryz.ntmps88
          go_wp2_with fail
          rw [HCU.out]
          refine (HNP.out l.dropLast (by rw [List.length_dropLast]; omega) w HT.out).mono ?_
          rintro e w1 ⟨rfl, hb⟩
          have HB := Lib.hid hb
          clear hb
          rw [HD.out]
          go_wp2
          go_ret2
          exact parse_none HR.out HB.out
        | some v =>
          have HR := Lib.hid (size_some HXX.out HTI.out hd)
          have HD := Lib.hid hd
          obtain ⟨v0, v1⟩ := decP_bd hd
          clear hd
          go_enter Tryz.func88, Tryz.ntmps88
          go_wp2_with fail
          rw [HCU.out]
          refine (HNP.out l.dropLast (by rw [List.length_dropLast]; omega) w HT.out).mono ?_
          rintro e w1 ⟨rfl, hb⟩
          have HB := Lib.hid hb
          clear hb
          rw [HD.out]
          go_wp2
          go_ret2
          exact parse_some (HR.out.trans (congrArg some (by omega))) HB.out
      · rw [decide_eq_false cm] at o2
        have HTI := Lib.hid (show timesQ l = 1 by rw [HTM.out, if_neg ck, if_neg cm])
        have HXX := Lib.hid (show (if 1 < timesQ l then l.dropLast else l) = l by rw [HTI.out]; rfl)
        clear ck cm
        cases hd : decP l 0 1048576 with
        | none =>
          have HR := Lib.hid (size_none HXX.out hd)
          have HD := Lib.hid hd
          clear hd
          go_enter Tryz.func88, Tryz.ntmps88
          go_wp2_with fail
          rw [← HSS.out]
          refine (HNP.out l (by exact hl) w HT.out).mono ?_
          rintro e w1 ⟨rfl, hb⟩
          have HB := Lib.hid hb
          clear hb
          rw [HD.out]
          go_wp2
          go_ret2
          exact parse_none HR.out HB.out
        | some v =>
          have HR := Lib.hid (size_some HXX.out HTI.out hd)
          have HD := Lib.hid hd
          obtain ⟨v0, v1⟩ := decP_bd hd
          clear hd
          go_enter Tryz.func88, Tryz.ntmps88
          go_wp2_with fail
          rw [← HSS.out]
          refine (HNP.out l (by exact hl) w HT.out).mono ?_
          rintro e w1 ⟨rfl, hb⟩
          have HB := Lib.hid hb
          clear hb
          rw [HD.out]
          go_wp2
          go_ret2
          exact parse_some (HR.out.trans (congrArg some (by omega))) HB.out
end Go.Proofs.YtomcdhmcjndioaaGreatDoor
end
section
namespace Go.Proofs.YtomcdhmcjndioaaGreatDoor
open Go.RowKit
set_option linter.unusedVariables false

def CivPt (n y m d : Int) : Prop := ∃ q o Y i K : Int, (n + 719468) / 146097 = q ∧ (n + 719468) % 146097 = o ∧ (o - o / 1460 + o / 36524 - o / 146096) / 365 = Y ∧ o - (365 * Y + Y / 4 - Y / 100) = i ∧ (5 * i + 2) / 153 = K ∧
  0 ≤ o ∧ o < 146097 ∧ 0 ≤ Y ∧ Y ≤ 399 ∧ 0 ≤ i ∧ i ≤ 365 ∧ 0 ≤ K ∧ K ≤ 11 ∧ 0 ≤ q ∧ q ≤ 30 ∧ q * 400 + Y + (if (K + 2) % 12 + 1 < 3 then 1 else 0) = y ∧ (K + 2) % 12 + 1 = m ∧ i - (153 * K + 2) / 5 + 1 = d
/-- From the parts of a March year. -/
theorem civ_ofp (z mp d : Int) (hz0 : 0 ≤ z) (hm0 : 0 ≤ mp) (hm : mp ≤ 11) (hd : 1 ≤ d)
    (hl : d ≤ (if mp = 11 then (if (z + 1) % 4 = 0 ∧ ((z + 1) % 100 ≠ 0 ∨ (z + 1) % 400 = 0) then 29 else 28) else if mp = 1 ∨ mp = 3 ∨ mp = 6 ∨ mp = 8 then 30 else 31))
    (n : Int) (hn : n = z / 400 * 146097 + z % 400 * 365 + z % 400 / 4 - z % 400 / 100 + ((153 * mp + 2) / 5 + d - 1) - 719468) (hn1 : -719162 ≤ n) (hn2 : n ≤ 2932896) :
    CivPt n (z + (if (mp + 2) % 12 + 1 < 3 then 1 else 0)) ((mp + 2) % 12 + 1) d := by
  obtain ⟨i, hi⟩ : ∃ i, (153 * mp + 2) / 5 + d - 1 = i := ⟨_, rfl⟩
  have hd31 : d ≤ 31 := by revert hl; repeat' split <;> intro hl <;> omega
  have hk : (5 * i + 2) / 153 = mp := by
    have hd30 : mp = 1 ∨ mp = 3 ∨ mp = 6 ∨ mp = 8 → d ≤ 30 := fun h => by
      rw [if_neg (by omega), if_pos h] at hl; exact hl
    have hd29 : mp = 11 → d ≤ 29 := fun h => by
      rw [if_pos h] at hl; split at hl <;> omega
    rcases (show mp = 0 ∨ mp = 1 ∨ mp = 2 ∨ mp = 3 ∨ mp = 4 ∨ mp = 5 ∨ mp = 6 ∨ mp = 7 ∨ mp = 8 ∨ mp = 9 ∨ mp = 10 ∨ mp = 11 by omega) with h | h | h | h | h | h | h | h | h | h | h | h <;> subst h <;> first | omega | (have := hd30 (by omega); omega) | (have := hd29 rfl; omega)
  have hi0 : 0 ≤ i := by omega
  have hi5 : i ≤ 365 ∧ (i = 365 → (z + 1) % 4 = 0 ∧ ((z + 1) % 100 ≠ 0 ∨ (z + 1) % 400 = 0)) := by
    by_cases h11 : mp = 11
    · rw [if_pos h11] at hl
      subst h11
      split at hl
      · rename_i h; exact ⟨by omega, fun _ => h⟩
      · exact ⟨by omega, fun _ => by omega⟩
    · exact ⟨by omega, fun _ => by omega⟩
  obtain ⟨o, ho⟩ : ∃ o, o = 365 * (z % 400) + z % 400 / 4 - z % 400 / 100 + i := ⟨_, rfl⟩
  obtain ⟨hy, ho0, ho1⟩ := yoe_back (z % 400) i (by omega) (by omega) hi0 hi5.1 (fun e => by have := hi5.2 e; omega) o ho
  have hno : n + 719468 = z / 400 * 146097 + o := by rw [hn, hi]; omega
  have hmod : (n + 719468) % 146097 = o := by rw [hno]; omega
  have hdiv : (n + 719468) / 146097 = z / 400 := by rw [hno]; omega
  have hins : o - (365 * (z % 400) + z % 400 / 4 - z % 400 / 100) = i := by omega
  have h1 : z / 400 * 400 + z % 400 = z := by omega
  have h2 : i - (153 * mp + 2) / 5 + 1 = d := by omega
  have hq : z / 400 ≤ 30 := by omega
  have hq0 : 0 ≤ z / 400 := by omega
  have hz4 : 0 ≤ z % 400 ∧ z % 400 ≤ 399 := by omega
  exact ⟨z / 400, o, z % 400, i, mp, hdiv, hmod, hy, hins, hk, ho0, ho1, hz4.1, hz4.2, hi0, hi5.1, hm0, hm, hq0, hq, by rw [h1], rfl, h2⟩
theorem civ_dayp {y m d : Nat} (h : dateB y m d = true) : CivPt (dayQ y m d) y m d := by
  have hin := day_in h
  unfold dateB at h
  simp only [Bool.and_eq_true, decide_eq_true_eq] at h
  obtain ⟨⟨⟨⟨⟨h1, h2⟩, h3⟩, h4⟩, h5⟩, h6⟩ := h
  have hl : leapQ y = true ↔ (y % 4 = 0 ∧ (y % 100 ≠ 0 ∨ y % 400 = 0)) := by unfold leapQ; simp
  rcases (show m < 3 ∨ 3 ≤ m by omega) with hm | hm
  · have hn : dayQ y m d = ((y : Int) - 1) / 400 * 146097 + ((y : Int) - 1) % 400 * 365 + ((y : Int) - 1) % 400 / 4 - ((y : Int) - 1) % 400 / 100 + ((153 * ((m : Int) + 9) + 2) / 5 + d - 1) - 719468 := by
      rw [← cnt_day y m d h1 h3 h4 h5]
      unfold cntP
      dsimp only
      rw [if_pos (by omega), show ((m : Int) + 9) % 12 = (m : Int) + 9 by omega]
    have hx := civ_ofp ((y : Int) - 1) ((m : Int) + 9) d (by omega) (by omega) (by omega) (by omega) (by
      have e : (y : Int) - 1 + 1 = y := by omega
      rw [e]
      rcases (show m = 1 ∨ m = 2 by omega) with h | h <;> subst h
      · rw [if_neg (by decide), if_neg (by decide)]
        have := mon_le y 1; omega
      · rw [if_pos (by decide)]
        unfold monQ at h6
        rw [if_pos rfl] at h6
        split
        · split at h6 <;> omega
        · rename_i hb
          rw [if_neg (fun e => hb (by have := hl.1 e; omega))] at h6
          omega) (dayQ y m d) hn (by omega) (by omega)
    rw [show ((m : Int) + 9 + 2) % 12 + 1 = m by omega, if_pos (by omega), show (y : Int) - 1 + 1 = y by omega] at hx
    exact hx
  · have hn : dayQ y m d = (y : Int) / 400 * 146097 + (y : Int) % 400 * 365 + (y : Int) % 400 / 4 - (y : Int) % 400 / 100 + ((153 * ((m : Int) - 3) + 2) / 5 + d - 1) - 719468 := by
      rw [← cnt_day y m d h1 h3 h4 h5]
      unfold cntP
      dsimp only
      rw [if_neg (by omega), show ((m : Int) + 9) % 12 = (m : Int) - 3 by omega]
    have hx := civ_ofp (y : Int) ((m : Int) - 3) d (by omega) (by omega) (by omega) (by omega) (by
      unfold monQ at h6
      rw [if_neg (by omega)] at h6
      rw [if_neg (by omega)]
      split
      · rw [if_pos (by omega)] at h6; omega
      · rw [if_neg (by omega)] at h6; omega) (dayQ y m d) hn (by omega) (by omega)
    rw [show ((m : Int) - 3 + 2) % 12 + 1 = m by omega, if_neg (by omega), show (y : Int) + 0 = y by omega] at hx
    exact hx
end Go.Proofs.YtomcdhmcjndioaaGreatDoor
end
section
namespace Go.Proofs.YtomcdhmcjndioaaGreatDoor
open Go.RowKit
set_option linter.unusedVariables false

set_option maxRecDepth 100000 in
set_option maxHeartbeats 4000000 in
theorem dcivil_any (y m d : Nat) (h : dateB y m d = true) (w : World) : Calls Tryz.prog 89 #[.int .i64 (dayQ y m d)] w (CivPost w y m d) := by
  unfold CivPost
  have hin := day_in h
  have hcv := civ_dayp h
  obtain ⟨V, hV⟩ : ∃ V, dayQ y m d = V := ⟨_, rfl⟩
  rw [hV] at hcv hin ⊢
  obtain ⟨n, hn⟩ : ∃ n : Nat, V + 719468 = (n : Int) := ⟨(V + 719468).toNat, by omega⟩
  have hn4 : n ≤ 4000000 := by omega
  obtain ⟨q, o, Y, i, K, e1, e2, e3, e4, e5, o0, o1, Y0, Y1, i0, i1, K0, K1, q0, q1, r1, r2, r3⟩ := hcv
  rw [hn] at e1 e2
  have HDV2 := Lib.hid (fun W => ddiv146097_any n (by omega) W)
  rw [e1, e2] at HDV2
  have HR := Lib.hid (And.intro r1 (And.intro r2 r3))
  have hk3 : decide ((K + 2) % 12 + 1 < 3) = decide ((K + 2) % 12 + 1 < 3) := rfl
  clear e1 e2 r1 r2 r3 hk3
  have hin1 := hin.2.2.1
  have hin2 := hin.2.2.2
  have g1 : decide (V < -719162) = false := decide_eq_false (by omega)
  have g2 : decide (2932896 < V) = false := decide_eq_false (by omega)
  clear hV h hin
  go_enter Tryz.func89, Tryz.ntmps89
  go_wp2_with fail
  refine (HDV2.out w).mono ?_
  rintro e w1 ⟨rfl, hb1⟩
  have HB1 := Lib.hid hb1
  clear hb1 HDV2
  go_wp2
  all_goals
    go_ret3
    obtain ⟨r1, r2, r3⟩ := HR.out
    refine ⟨?_, HB1.out⟩
    rw [← r1, ← r2, ← r3]
    first | rw [if_pos (by omega)] | rw [if_neg (by omega), Int.add_zero]
    rfl
theorem date_next {y m d : Nat} (h1 : 1 ≤ y) (h2 : y ≤ 9999) (h3 : 1 ≤ m) (h4 : m ≤ 12) (h5 : 1 ≤ d) (h6 : d ≤ 31) (h : dateB y m d = false) : cntP y m d = dayQ y (m + 1) (d - monQ y m) ∧ dateB y (m + 1) (d - monQ y m) = true := by
  have hd : monQ y m < d := by
    rcases (show d ≤ monQ y m ∨ monQ y m < d by omega) with h7 | h7
    · unfold dateB at h
      rw [decide_eq_true h1, decide_eq_true h2, decide_eq_true h3, decide_eq_true h4, decide_eq_true h5, decide_eq_true h7] at h
      cases h
    · exact h7
  have hm : m ≠ 12 := by rintro rfl; have : monQ y 12 = 31 := rfl; omega
  have hb := mon_le y m
  have hb2 := mon_le y (m + 1)
  have hc : dayQ y m d = dayQ y (m + 1) (d - monQ y m) := by
    rw [day_year, day_year, cum_step y m h3]
    omega
  refine ⟨by rw [cnt_day y m d h1 h3 h4 h5, hc], ?_⟩
  unfold dateB
  simp only [Bool.and_eq_true, decide_eq_true_eq]
  omega
set_option maxRecDepth 100000 in
set_option maxHeartbeats 4000000 in
theorem ddays_any (y m d : Nat) (hy : y ≤ 100000) (hm : m ≤ 100000) (hd : d ≤ 100000) (w : World) : Calls Tryz.prog 130 #[.int .i64 (y : Int), .int .i64 (m : Int), .int .i64 (d : Int)] w (DayPost w (daysQ y m d)) := by
  unfold DayPost
  by_cases h1 : 1 ≤ y ∧ y ≤ 9999 ∧ 1 ≤ m ∧ m ≤ 12 ∧ 1 ≤ d ∧ d ≤ 31
  · obtain ⟨a1, a2, a3, a4, a5, a6⟩ := h1
    have g1 : decide ((y : Int) < 1) = false := decide_eq_false (by omega)
    have g2 : decide ((9999 : Int) < (y : Int)) = false := decide_eq_false (by omega)
    have g3 : decide ((m : Int) < 1) = false := decide_eq_false (by omega)
    have g4 : decide ((12 : Int) < (m : Int)) = false := decide_eq_false (by omega)
    have g5 : decide ((d : Int) < 1) = false := decide_eq_false (by omega)
    have g6 : decide ((31 : Int) < (d : Int)) = false := decide_eq_false (by omega)
    have HCO := Lib.hid (fun W => dcount_any y m d a1 a2 a3 a4 a5 a6 W)
    unfold DayPost at HCO
    cases hB : dateB y m d
    · obtain ⟨hc, hg⟩ := date_next a1 a2 a3 a4 a5 a6 hB
      have HV := Lib.hid (show daysQ y m d = 0 by unfold daysQ; rw [hB]; rfl)
      rw [hc] at HCO
      have HCI := Lib.hid (fun W => dcivil_any y (m + 1) (d - monQ y m) hg W)
      unfold CivPost at HCI
      obtain ⟨V, hV⟩ : ∃ V, dayQ y (m + 1) (d - monQ y m) = V := ⟨_, rfl⟩
      obtain ⟨D, hD⟩ : ∃ D, d - monQ y m = D := ⟨_, rfl⟩
      rw [hV] at HCO HCI
      rw [hD] at HCI
      obtain ⟨M, hM⟩ : ∃ M, m + 1 = M := ⟨_, rfl⟩
      rw [hM] at HCI
      have g7 : ((y : Int) == (y : Int)) = true := by simp
      have g8 : ((M : Int) == (m : Int)) = false := by rw [beq_eq_false_iff_ne]; omega
      clear hc hg hV hD hM hB
      go_enter Tryz.func130, Tryz.ntmps130
      go_wp2_with fail
      refine (HCO.out w).mono ?_
      rintro e w1 ⟨rfl, hb1⟩
      have HB1 := Lib.hid hb1
      clear hb1 HCO
      go_wp2_with fail
      refine (HCI.out w1).mono ?_
      rintro e w2 ⟨rfl, hb2⟩
      have HB2 := Lib.hid (HB1.out.trans (hb2.mono HB1.out.size))
      clear hb2 HCI HB1
      go_wp2
      go_ret
      rw [HV.out]
      exact ⟨rfl, HB2.out⟩
    · have HV := Lib.hid (show daysQ y m d = dayQ y m d by unfold daysQ; rw [hB]; rfl)
      rw [cnt_day y m d a1 a3 a4 a5] at HCO
      have HCI := Lib.hid (fun W => dcivil_any y m d hB W)
      unfold CivPost at HCI
      obtain ⟨V, hV⟩ : ∃ V, dayQ y m d = V := ⟨_, rfl⟩
      rw [hV] at HCO HCI HV
      clear hV hB
      go_enter Tryz.func130, Tryz.ntmps130
      go_wp2_with fail
      refine (HCO.out w).mono ?_
      rintro e w1 ⟨rfl, hb1⟩
      have HB1 := Lib.hid hb1
      clear hb1 HCO
      go_wp2_with fail
      refine (HCI.out w1).mono ?_
      rintro e w2 ⟨rfl, hb2⟩
      have HB2 := Lib.hid (HB1.out.trans (hb2.mono HB1.out.size))
      clear hb2 HCI HB1
      go_wp2
      go_ret
      rw [HV.out]
      exact ⟨rfl, HB2.out⟩
  · have HV := Lib.hid (show daysQ y m d = 0 from date_no fun h => h1 ⟨h.1, h.2.1, h.2.2.1, h.2.2.2.1, h.2.2.2.2.1, by have := mon_le y m; omega⟩)
    go_enter Tryz.func130, Tryz.ntmps130
    by_cases a1 : 1 ≤ y
    · have g1 : decide ((y : Int) < 1) = false := decide_eq_false (by omega)
      by_cases a2 : y ≤ 9999
      · have g2 : decide ((9999 : Int) < (y : Int)) = false := decide_eq_false (by omega)
        by_cases a3 : 1 ≤ m
        · have g3 : decide ((m : Int) < 1) = false := decide_eq_false (by omega)
          by_cases a4 : m ≤ 12
          · have g4 : decide ((12 : Int) < (m : Int)) = false := decide_eq_false (by omega)
            by_cases a5 : 1 ≤ d
            · have g5 : decide ((d : Int) < 1) = false := decide_eq_false (by omega)
              have g6 : decide ((31 : Int) < (d : Int)) = true := decide_eq_true (by omega)
              go_wp2
              go_ret
              rw [HV.out]
              exact ⟨rfl, Below.refl _ _⟩
            · have g5 : decide ((d : Int) < 1) = true := decide_eq_true (by omega)
              go_wp2
              go_ret
              rw [HV.out]
              exact ⟨rfl, Below.refl _ _⟩
          · have g4 : decide ((12 : Int) < (m : Int)) = true := decide_eq_true (by omega)
            go_wp2
            go_ret
            rw [HV.out]
            exact ⟨rfl, Below.refl _ _⟩
        · have g3 : decide ((m : Int) < 1) = true := decide_eq_true (by omega)
          go_wp2
          go_ret
          rw [HV.out]
          exact ⟨rfl, Below.refl _ _⟩
      · have g2 : decide ((9999 : Int) < (y : Int)) = true := decide_eq_true (by omega)
        go_wp2
        go_ret
        rw [HV.out]
        exact ⟨rfl, Below.refl _ _⟩
    · have g1 : decide ((y : Int) < 1) = true := decide_eq_true (by omega)
      go_wp2
      go_ret
      rw [HV.out]
      exact ⟨rfl, Below.refl _ _⟩
end Go.Proofs.YtomcdhmcjndioaaGreatDoor
end
section
namespace Go.Proofs.YtomcdhmcjndioaaGreatDoor
open Go.RowKit
set_option linter.unusedVariables false

/-- The table of powers of ten, for strconv.Itoa. -/
structure PowTab (w : World) : Prop where
  tab : Lib.TabIs Tryz.prog w "internal/strconv.uint64pow10" .u64 Lib.pow10Tab
  lt : 4 < w.heap.size
theorem pow_named : Tryz.prog.globalNamed "internal/strconv.uint64pow10" = some 4 := by kernel_rfl
theorem PowTab.below {w w' : World} (h : PowTab w) (hb : Below w.heap.size w w') : PowTab w' := by
  refine ⟨?_, Nat.lt_of_lt_of_le h.lt hb.size⟩
  have h1 := h.tab
  unfold Lib.TabIs World.var? at h1 ⊢
  rw [pow_named] at h1 ⊢
  simp only [Option.bind_some] at h1 ⊢
  rw [hb.block _ h.lt]
  exact h1
set_option maxRecDepth 100000 in
theorem ntext_any (n : Int) (h0 : -9223372036854775808 ≤ n) (h1 : n ≤ 9223372036854775807) (w : World) (ht : PowTab w) : Calls Tryz.prog 59 #[.int .i64 n] w (StrB w (Lib.itoa n)) := by
  have HT := Lib.hid ht.tab
  clear ht
  go_enter Tryz.func59, Tryz.ntmps59
  go_wp2_with fail
  refine (Tryz.strconv_Itoa n h0 h1 _ HT.out).mono ?_
  rintro e w' ⟨rfl, k, os, rfl⟩
  go_wp2
  go_ret
  exact ⟨rfl, Lib.below_grow _ _ (Nat.le_refl _) k os⟩
/-- Pad. -/
def padP (n wd : Nat) : List UInt8 := Lib.repeatL [48] (wd - (Lib.itoa (n : Int)).length) ++ Lib.itoa (n : Int)
set_option maxRecDepth 100000 in
set_option maxHeartbeats 4000000 in
theorem npad_any (n wd : Nat) (hn : n ≤ 1000000000) (hw : wd ≤ 100) (hl : (Lib.itoa (n : Int)).length ≤ wd) (w : World) (ht : PowTab w) : Calls Tryz.prog 90 #[.int .i64 (n : Int), .int .i64 (wd : Int)] w (StrB w (padP n wd)) := by
  have HT := Lib.hid (ntext_any (n : Int) (by omega) (by omega) w ht)
  have HP := Lib.hid (show padP n wd = Lib.repeatL [48] (wd - (Lib.itoa (n : Int)).length) ++ Lib.itoa (n : Int) from rfl)
  obtain ⟨P, hP⟩ : ∃ P, padP n wd = P := ⟨_, rfl⟩
  rw [hP] at HP ⊢
  obtain ⟨T, hT⟩ : ∃ T, Lib.itoa (n : Int) = T := ⟨_, rfl⟩
  rw [hT] at HT HP hl
  unfold StrB at HT
  obtain ⟨c, hc⟩ : ∃ c, wd - T.length = c := ⟨_, rfl⟩
  rw [hc] at HP
  have HR := Lib.hid (fun W => Tryz.strings_Repeat ⟨#[48]⟩ c W (by omega) (by show 1 * c ≤ _; omega))
  obtain ⟨S, hS⟩ : ∃ S, ba T = S := ⟨_, rfl⟩
  have HS := Lib.hid hS
  rw [hS] at HT
  obtain ⟨ni, hni⟩ : ∃ x : Int, (n : Int) = x := ⟨_, rfl⟩
  have n0 : 0 ≤ ni := by omega
  rw [hni] at HT ⊢
  obtain ⟨wi, hwi⟩ : ∃ x : Int, (wd : Int) = x := ⟨_, rfl⟩
  have w0 : 0 ≤ wi := by omega
  have w1 : wi ≤ 100 := by omega
  rw [hwi]
  obtain ⟨m, hm⟩ : ∃ m : Int, (S.size : Int) = m := ⟨_, rfl⟩
  have hm2 : m = (T.length : Int) := by rw [← hm, ← hS, ba_size]
  have m0 : 0 ≤ m := by omega
  have m1 : m ≤ wi := by omega
  have hmax : max (wi - m) 0 = wi - m := by omega
  have hcw : wi - m = (c : Int) := by omega
  have c1 : c ≤ 100 := by omega
  have HLL := Lib.hid (show (ba (Lib.repeatL [48] c)).size = c by rw [ba_size, Lib.repeatL_length]; simp)
  have s1 : S.size ≤ 100 := by omega
  clear hni hP hT ht hS hm2 hc hwi
  go_enter Tryz.func90, Tryz.ntmps90
  go_wp2_with fail
  refine HT.out.mono ?_
  rintro e w2 ⟨rfl, hb2⟩
  have HB2 := Lib.hid hb2
  clear hb2
  go_wp2_with fail
  refine (HR.out _).mono ?_
  rintro e w3 ⟨rfl, hb3⟩
  have HB3 := Lib.hid (HB2.out.trans (hb3.mono HB2.out.size))
  clear hb3
  have hr1 : (⟨(Lib.repeatL (⟨#[48]⟩ : ByteArray).data.toList c).toArray⟩ : ByteArray) = ba (Lib.repeatL [48] c) := rfl
  rw [hr1]
  obtain ⟨Z, hZ⟩ : ∃ Z, ba (Lib.repeatL [48] c) = Z := ⟨_, rfl⟩
  have HZ := Lib.hid hZ
  have z1 : Z.size + S.size ≤ 1000 := by have := HLL.out; rw [hZ] at this; omega
  have z2 : ¬ 9223372036854775807 < Z.size + S.size := by omega
  rw [hZ]
  clear hr1 hZ HLL
  go_wp2
  go_ret
  refine ⟨?_, HB3.out⟩
  rw [HP.out, ← HZ.out, ← HS.out, ba_append]
  rfl
theorem digits_ge {u : Nat} (h : ¬ u < 10) : Lib.decDigits u = Lib.decDigits (u / 10) ++ [UInt8.ofNat (48 + u % 10)] := by conv => lhs; rw [Lib.decDigits, dif_neg h]
theorem digits_lt {u : Nat} (h : u < 10) : Lib.decDigits u = [UInt8.ofNat (48 + u)] := by rw [Lib.decDigits, dif_pos h]
theorem itoa_2000 : Lib.itoa ((2000 : Nat) : Int) = [50, 48, 48, 48] := by
  show Lib.decDigits 2000 = _
  rw [digits_ge (by decide), digits_ge (u := 2000 / 10) (by decide), digits_ge (u := 2000 / 10 / 10) (by decide), digits_lt (u := 2000 / 10 / 10 / 10) (by decide)]
  rfl
theorem itoa_one (u : Nat) (h : u < 10) : Lib.itoa (u : Int) = [UInt8.ofNat (48 + u)] := by
  unfold Lib.itoa
  rw [if_neg (by omega), Int.toNat_natCast, digits_lt h]
theorem pad_2000 : padP 2000 4 = [50, 48, 48, 48] := by unfold padP; rw [itoa_2000]; rfl
theorem pad_1 : padP 1 2 = [48, 49] := by unfold padP; rw [itoa_one 1 (by decide)]; rfl
theorem pad_2 : padP 2 2 = [48, 50] := by unfold padP; rw [itoa_one 2 (by decide)]; rfl
set_option maxRecDepth 100000 in
set_option maxHeartbeats 4000000 in
theorem count_2048 (w : World) (ht : PowTab w) : Calls Tryz.prog 60 #[.int .i64 2048] w (StrB w [50, 75]) := by
  have HT := Lib.hid (ntext_any ((2 : Nat) : Int) (by omega) (by omega) w ht)
  rw [itoa_one 2 (by decide)] at HT
  unfold StrB at HT
  clear ht
  go_enter Tryz.func60, Tryz.ntmps60
  go_wp2_with fail
  refine HT.out.mono ?_
  rintro e w2 ⟨rfl, hb2⟩
  have HB2 := Lib.hid hb2
  clear hb2
  go_wp2
  go_ret
  exact ⟨rfl, HB2.out⟩
theorem size_2K : sizeQ [50, 75] = some 2048 := by kernel_rfl
set_option maxRecDepth 100000 in
set_option maxHeartbeats 4000000 in
theorem sized_2048 (w : World) (ht : PowTab w) (hT : QTabs w) : Calls Tryz.prog 61 #[.int .i64 2048] w fun e w' => e = .returned (.bool true) ∧ Below w.heap.size w w' := by
  have HT := Lib.hid (count_2048 w ht)
  have HTB := Lib.hid hT
  clear ht hT
  go_enter Tryz.func61, Tryz.ntmps61
  go_wp2_with fail
  refine HT.out.mono ?_
  rintro e w2 ⟨rfl, hb2⟩
  have HB2 := Lib.hid hb2
  have hsz := qsize_any [50, 75] w2 (by decide) (HTB.out.below hb2)
  rw [size_2K] at hsz
  have HSZ := Lib.hid hsz
  clear hb2 hsz
  go_wp2_with fail
  refine HSZ.out.mono ?_
  rintro e w3 ⟨rfl, hb3⟩
  have HB3 := Lib.hid (HB2.out.trans (hb3.mono HB2.out.size))
  clear hb3
  simp only [Option.getD_some, Option.isSome_some]
  go_wp2
  go_ret
  exact ⟨rfl, HB3.out⟩
theorem day_2000 : dayQ 2000 1 2 = 10958 := by kernel_rfl
theorem date_2000 : dateB 2000 1 2 = true := by kernel_rfl
set_option maxRecDepth 100000 in
set_option maxHeartbeats 4000000 in
theorem dated_2000 (w : World) (ht : PowTab w) : Calls Tryz.prog 62 #[.int .i64 946771200] w fun e w' => e = .returned (.tuple #[.string (ba [50, 48, 48, 48, 45, 48, 49, 45, 48, 50]), .bool true]) ∧ Below w.heap.size w w' := by
  have hc := dcivil_any 2000 1 2 date_2000 w
  rw [day_2000] at hc
  have HC := Lib.hid hc
  have HT := Lib.hid ht
  have P1 := Lib.hid (fun W hW => npad_any 2000 4 (by decide) (by decide) (by rw [itoa_2000]; decide) W hW)
  have P2 := Lib.hid (fun W hW => npad_any 1 2 (by decide) (by decide) (by rw [itoa_one 1 (by decide)]; decide) W hW)
  have P3 := Lib.hid (fun W hW => npad_any 2 2 (by decide) (by decide) (by rw [itoa_one 2 (by decide)]; decide) W hW)
  rw [pad_2000] at P1
  rw [pad_1] at P2
  rw [pad_2] at P3
  unfold StrB at P1 P2 P3
  clear hc ht
  go_enter Tryz.func62, Tryz.ntmps62
  go_wp2_with fail
  refine HC.out.mono ?_
  rintro e w2 ⟨rfl, hb2⟩
  have HB2 := Lib.hid hb2
  clear hb2
  go_wp2_with fail
  refine (P1.out w2 (HT.out.below HB2.out)).mono ?_
  rintro e w3 ⟨rfl, hb3⟩
  have HB3 := Lib.hid (HB2.out.trans (hb3.mono HB2.out.size))
  clear hb3
  go_wp2_with fail
  refine (P2.out w3 (HT.out.below HB3.out)).mono ?_
  rintro e w4 ⟨rfl, hb4⟩
  have HB4 := Lib.hid (HB3.out.trans (hb4.mono HB3.out.size))
  clear hb4
  go_wp2_with fail
  refine (P3.out w4 (HT.out.below HB4.out)).mono ?_
  rintro e w5 ⟨rfl, hb5⟩
  have HB5 := Lib.hid (HB4.out.trans (hb5.mono HB4.out.size))
  clear hb5
  go_wp2
  go_ret2
  exact ⟨rfl, HB5.out⟩
end Go.Proofs.YtomcdhmcjndioaaGreatDoor
end
section
namespace Go.Proofs.YtomcdhmcjndioaaGreatDoor
open Go.RowKit
set_option linter.unusedVariables false

open Go.ChangeMaps
open Go Go.ChangeShapes Go.WideShapes Go.ChangeAt Go.RowKit Go.Deep Go.Lib
/-- The list that both rows bear. -/
def laid37 : List (String × DataW Unit) := Rows.queryReadsRow.laid
theorem laid37_plain (w : World) : laidMetH Tryz.prog laid37 w = laidMet Tryz.prog laid37 w := MakeChecks.laidMetH_plain _ _ _ (by kernel_rfl)
theorem gER : Tryz.prog.globalNamed "strconv.ErrRange" = some 6 := by kernel_rfl
theorem gERType : (Tryz.prog.globals[(6 : Nat)]?).map (·.type) = some 97 := by kernel_rfl
theorem cells_es : Tryz.prog.cellsOf 192 = 1 := by kernel_rfl
theorem cells_st : Tryz.prog.cellsOf 9 = 1 := by kernel_rfl
theorem star_es : "*" ++ "errors.errorString" = "*errors.errorString" := by decide
theorem row_es (u : TypeId) (h : Tryz.prog.typeName? 3 u = some "*errors.errorString") : u = 190 :=
  typeName_ptr_named (nm := "errors.errorString") (by rw [star_es]; kernel_rfl) (by kernel_rfl) (by decide) u (by rw [star_es]; exact h)
theorem pow_eq : (Rows.laid_internal_strconv_uint64pow10 : DataW Unit) = Lib.tabData .u64 Lib.pow10Tab := by kernel_rfl
theorem gPowT : (Tryz.prog.globals[(4 : Nat)]?).map (·.type) = some 167 := by kernel_rfl
theorem cells_u64 : Tryz.prog.cellsOf 156 = 1 := by kernel_rfl
theorem cells_20 : Tryz.prog.cellsOf 167 = 20 := by kernel_rfl
theorem gFld : Tryz.prog.globalNamed "pouch/query.fields" = some 0 := by kernel_rfl
theorem gFldT : (Tryz.prog.globals[(0 : Nat)]?).map (·.type) = some 84 := by kernel_rfl
theorem cells_6 : Tryz.prog.cellsOf 84 = 6 := by kernel_rfl
theorem fld_eq : (Rows.laid_pouch_query_fields : DataW Unit) = .agg (fieldsQ.map fun s => .lit (.string s)) := by kernel_rfl
/-- An array of strings that reads as the table. -/
theorem cells_of_strs {H : Type} {enc : TypeId × Value → H} {w : World} {base : Nat} {sp : Nat → Bool} {held : Bool} {fuel : Nat} {cs : List Value} {zs : List (List UInt8)} {p : List MemPlace}
    (h : DataW.trod enc Tryz.prog w base sp held fuel 84 cs = some (.agg (zs.map fun s => .lit (.string s)), p)) : cs = zs.map fun s => Value.string (ba s) := by
  cases fuel with
  | zero => simp [DataW.trod] at h
  | succ fuel =>
    simp only [DataW.trod, Tryz.underlying84, cells_st, cells_6, Nat.mul_one] at h
    split at h
    · rename_i hl
      obtain ⟨xs, hm, hx⟩ := Option.map_eq_some_iff.1 h
      have hxs : xs.map (·.1) = zs.map fun z => (DataW.lit (.string z) : DataW H) := by
        have := congrArg Prod.fst hx
        simpa using this
      have hxl : xs.length = 6 := by simpa using mapM_length hm
      have hzl : zs.length = 6 := by
        have := congrArg List.length hxs
        simp at this
        omega
      apply List.ext_getElem?
      intro i
      by_cases hi : i < 6
      · obtain ⟨b, hb, hf⟩ := mapM_at hm i i (by simp [hi])
        obtain ⟨s, hc, hd, _⟩ := DataW.trod_string Tryz.underlying9 hf
        have h1 : cs[i]? = some (.string s) := by
          have := congrArg (·[0]?) hc
          simpa [List.getElem?_take, List.getElem?_drop] using this
        have h2 : (xs.map (·.1))[i]? = some (DataW.lit (.string s.data.toList) : DataW H) := by simp [hb, hd]
        rw [hxs] at h2
        simp only [List.getElem?_map, Option.map_eq_some_iff, DataW.lit.injEq, Lit.string.injEq] at h2
        obtain ⟨z', hz', he⟩ := h2
        rw [h1, List.getElem?_map, hz', he]
        rfl
      · rw [List.getElem?_eq_none (by omega), List.getElem?_eq_none (by simp; omega)]
    · cases h
theorem tabs37 {W : World} (hL : laidMetH Tryz.prog laid37 W) (hS : W.ShapedOpen Tryz.prog) : QTabs W ∧ PowTab W := by
  rw [laid37_plain] at hL
  have hm : ∃ m, W.cell? ⟨2, 0, none⟩ = some (.int .i64 m) := Go.Proofs.cell_of_shapedOpen_int (zero := #[.int .i64 0]) (t := 3) hS (of_decide_eq_true (by kernel_rfl)) (by kernel_rfl) rfl (by kernel_rfl) (by kernel_rfl) Tryz.underlying3
  have hP := hL.tail.tail
  have hE := hP.tail.tail
  have hF := hE.tail.tail
  have hC := hF.tail
  have hQ := hC.tail
  have hpow : Lib.TabIs Tryz.prog W "internal/strconv.uint64pow10" .u64 Lib.pow10Tab := tabIs_of_head pow_named gPowT Tryz.underlying167 Tryz.underlying156 cells_u64 cells_20 (by rw [← pow_eq]; exact hP)
  obtain ⟨a1, s1, hv1, -, -, -⟩ := laid_sentinel hE gER gERType Tryz.underlying97 row_es Tryz.underlying190 Tryz.underlying192 rfl rfl Tryz.underlying9 cells_es cells_st
  have h0 : W.cell? ⟨6, 0, none⟩ = some (.iface 190 (.pointer (some a1))) := by have h0 := World.var?_cell gER hv1 0; simpa using h0
  obtain ⟨m, hm2⟩ := hm
  obtain ⟨psF, ⟨g0, t0, cs0, f0, p0, q0, hg0, ht0, hv0, hd0, _, _⟩, _⟩ := hF
  obtain ⟨psC, ⟨g2, t2, cs2, f2, p2, q2, hg2, ht2, hv2, hd2, _, _⟩, _⟩ := hC
  obtain ⟨psQ, ⟨g3, t3, cs3, f3, p3, q3, hg3, ht3, hv3, hd3, _, _⟩, _⟩ := hQ
  obtain rfl := Option.some.inj (gFold.symm.trans hg0)
  obtain rfl := Option.some.inj (gCut.symm.trans hg2)
  obtain rfl := Option.some.inj (gFld.symm.trans hg3)
  obtain rfl := Option.some.inj (tFold.symm.trans ht0)
  obtain rfl := Option.some.inj (tCut.symm.trans ht2)
  obtain rfl := Option.some.inj (gFldT.symm.trans ht3)
  obtain ⟨ad0, c0, hc0, hf⟩ := fold_in hd0
  obtain ⟨ad1, c1, hc1, hk⟩ := cut_in hd2
  have k0 : W.cell? ⟨3, 0, none⟩ = some (.slice (some ad0) 17 c0) := by
    have := World.var?_cell hg0 hv0 0
    rw [Array.eq_one_of_toList hc0] at this
    simpa using this
  have k1 : W.cell? ⟨1, 0, none⟩ = some (.slice (some ad1) 19 c1) := by
    have := World.var?_cell hg2 hv2 0
    rw [Array.eq_one_of_toList hc1] at this
    simpa using this
  rw [fld_eq] at hd3
  have hcs := cells_of_strs hd3
  have hfl : ∀ j, j < 6 → W.cell? ⟨0, j, none⟩ = some (.string (ba (fieldsQ.getD j []))) := fun j hj => by
    have h1 := World.var?_cell hg3 hv3 j
    rw [h1, ← Array.getElem?_toList, hcs, List.getElem?_map]
    match j, hj with
    | 0, _ => rfl
    | 1, _ => rfl
    | 2, _ => rfl
    | 3, _ => rfl
    | 4, _ => rfl
    | 5, _ => rfl
  have hpc := hpow.cell pow_named 0 (by decide)
  exact ⟨⟨⟨_, h0, .inr ⟨_, _, rfl⟩⟩, ⟨m, hm2⟩, ⟨World.block_lt_of_cell? W _ k0, ad0, c0, k0, hf⟩, ⟨World.block_lt_of_cell? W _ k1, ad1, c1, k1, hk⟩, hfl, World.block_lt_of_cell? W _ hm2, World.block_lt_of_cell? W _ h0, World.block_lt_of_cell? W _ (hfl 0 (by decide))⟩, ⟨hpow, World.block_lt_of_cell? W _ hpc⟩⟩
/-- A world for the witness. -/
noncomputable def world37 (os : Os) : World := World.laidAll Tryz.prog os laid37
theorem met37 (os : Os) (args : Array Value) : laidMetH Tryz.prog laid37 ((world37 os).forCall (fun _ _ => 0) ⟨#[], args, []⟩).memory := by
  rw [laid37_plain]
  exact laidMet_laidAll _ (by kernel_rfl) (by kernel_rfl)
end Go.Proofs.YtomcdhmcjndioaaGreatDoor
end
section
namespace Go.Proofs.YtomcdhmcjndioaaGreatDoor
open Go.RowKit
set_option linter.unusedVariables false

/-- Elements of a map are read as they are. -/
def asIs (v : Value) : Option (DataW Value × List MemPlace) := some (.held v, [])
/-- A kind of keys: their values, which fit, their literals. -/
structure KeyL (k : TypeId) (κ : Type) where
  kv : κ → Value
  fits : κ → Prop
  kk : κ → Lit
  keyed : Maps.Keyed Tryz.prog k
  of : ∀ x, fits x → keyOf Tryz.prog k (kv x) = some (kk x)
  inj : ∀ x y, fits x → fits y → kk x = kk y → x = y
/-- Block b is a map: the key x leads to f x. -/
def MapL {k : TypeId} {κ : Type} (K : KeyL k κ) (w : World) (b : Nat) (f : κ → Option Value) (c : Nat) : Prop :=
  ∃ D, w.ownsMap Tryz.prog k asIs b c D ∧ ∀ x, K.fits x → ∀ z, D.atKey (K.kk x) z = match f x with | some v => .held v | none => z
theorem ownsMap_block {H : Type} {P : Program} {k : TypeId} {R : Value → Option (DataW H × List MemPlace)} {w w' : World} {b n : Nat} {D : DataW H} (h : w.ownsMap P k R b n D) (hb : w'.heap[b]? = w.heap[b]?) : w'.ownsMap P k R b n D := by
  obtain ⟨es, clock, h1, h2⟩ := h
  exact ⟨es, clock, hb.trans h1, h2⟩
section
variable {k : TypeId} {κ : Type} {K : KeyL k κ} {w w' : World} {b c : Nat} {f : κ → Option Value}
theorem MapL.keep (h : MapL K w b f c) (hb : w'.heap[b]? = w.heap[b]?) : MapL K w' b f c := by
  obtain ⟨D, h1, h2⟩ := h; exact ⟨D, ownsMap_block h1 hb, h2⟩
theorem MapL.lt (h : MapL K w b f c) : b < w.heap.size := by obtain ⟨D, h1, _⟩ := h; exact h1.lt
theorem MapL.below (h : MapL K w b f c) (hb : Below w.heap.size w w') : MapL K w' b f c := h.keep (hb.block b h.lt)
theorem MapL.mono (h : MapL K w b f c) {c' : Nat} (hc : c ≤ c') : MapL K w b f c' := by
  obtain ⟨D, h1, h2⟩ := h; exact ⟨D, h1.mono hc, h2⟩
theorem MapL.congr (h : MapL K w b f c) {g : κ → Option Value} (hg : ∀ x, K.fits x → g x = f x) : MapL K w b g c := by
  obtain ⟨D, h1, h2⟩ := h; exact ⟨D, h1, fun x hx z => by rw [hg x hx]; exact h2 x hx z⟩
theorem MapL.made (K : KeyL k κ) (w : World) : MapL K (w.alloc (.map #[] 0)) w.heap.size (fun _ => none) 0 := ⟨_, World.ownsMap_made _ _ _ _, fun _ _ _ => rfl⟩
theorem MapL.look {t e : TypeId} (h : MapL K w b f c) (ht : Tryz.prog.underlying t = some (.map k e)) {z : Value} (hz : (zeroValue e).run Tryz.prog w = .ok z w) {x : κ} (hx : K.fits x) :
    (Instr.lookup t (.map (some b)) (K.kv x) false).run Tryz.prog w = .ok ((f x).getD z) w := by
  obtain ⟨D, h1, h2⟩ := h
  obtain ⟨v, ps, hrun, hv⟩ := h1.lookup K.keyed ht hz (zd := .held z) (zp := []) rfl (K.of x hx)
  rw [h2 x hx] at hv
  rw [hrun]
  unfold asIs at hv
  cases hn : f x with
  | none => rw [hn] at hv; simp only [Option.some.injEq, Prod.mk.injEq, DataW.held.injEq] at hv; rw [hv.1]; rfl
  | some g => rw [hn] at hv; simp only [Option.some.injEq, Prod.mk.injEq, DataW.held.injEq] at hv; rw [hv.1]; rfl
theorem MapL.look_ok {t e : TypeId} (h : MapL K w b f c) (ht : Tryz.prog.underlying t = some (.map k e)) {z : Value} (hz : (zeroValue e).run Tryz.prog w = .ok z w) {x : κ} (hx : K.fits x) :
    (Instr.lookup t (.map (some b)) (K.kv x) true).run Tryz.prog w = .ok (.tuple #[(f x).getD z, .bool (f x).isSome]) w := by
  obtain ⟨D, h1, h2⟩ := h
  obtain ⟨v, ps, hrun, hv⟩ := h1.look_ok K.keyed ht hz (zd := .held z) (zp := []) rfl (K.of x hx)
  have h3 := h2 x hx
  rw [h3] at hv
  rw [hrun]
  unfold asIs at hv
  cases hn : f x with
  | none =>
    rw [hn] at hv h3
    simp only [Option.some.injEq, Prod.mk.injEq, DataW.held.injEq] at hv
    rw [hv.1, Maps.has_false_of_atKey h3]
    rfl
  | some g =>
    rw [hn] at hv h3
    simp only [Option.some.injEq, Prod.mk.injEq, DataW.held.injEq] at hv
    rw [hv.1, Maps.has_true_of_atKey h3]
    rfl
open Classical in
/-- One key set. -/
noncomputable def updK {κ : Type} (f : κ → Option Value) (x : κ) (v : Value) : κ → Option Value := fun y => if y = x then some v else f y
theorem updK_same {κ : Type} (f : κ → Option Value) (x : κ) (v : Value) : updK f x v x = some v := by unfold updK; rw [if_pos rfl]
theorem updK_other {κ : Type} (f : κ → Option Value) {x y : κ} (v : Value) (h : y ≠ x) : updK f x v y = f y := by unfold updK; rw [if_neg h]
theorem MapL.put {t e : TypeId} (h : MapL K w b f c) (ht : Tryz.prog.underlying t = some (.map k e)) (hc : c < maxLen) {x : κ} (hx : K.fits x) (v : Value) :
    ∃ w', (Instr.mapUpdate t (.map (some b)) (K.kv x) v).run Tryz.prog w = .ok () w' ∧ MapL K w' b (updK f x v) (c + 1) ∧ w.grownBy w' (some b) := by
  obtain ⟨D, h1, h2⟩ := h
  have hm := h1.isMap
  obtain ⟨w', hrun, ho, hg⟩ := h1.update K.keyed ht hc (d := .held v) (ps := []) (K.of x hx) (val := v) rfl
  refine ⟨w', hrun, ⟨_, ho, fun y hy z => ?_⟩, hg⟩
  by_cases e : y = x
  · subst e
    rw [updK_same, Maps.atKey_put_same hm (K.keyed.key (K.of y hx))]
  · rw [updK_other _ _ e, Maps.atKey_put_other (fun e1 => e (K.inj y x hy hx e1)), h2 y hy]
end
theorem laidOut : laidOutB Tryz.prog = true := by kernel_rfl
theorem wf64 {i : Int} (h : -9223372036854775808 ≤ i ∧ i ≤ 9223372036854775807) : (Lit.int .i64 i).wf = true := by
  unfold Lit.wf
  have h1 : IntKind.i64.min = -9223372036854775808 := by decide
  have h2 : IntKind.i64.max = 9223372036854775807 := by decide
  simp only [h1, h2, Bool.and_eq_true, decide_eq_true_eq]; exact h
theorem strK_of (x : List UInt8) (hx : x.length ≤ maxLen) : keyOf Tryz.prog 9 (.string (ba x)) = some (.string x) := by
  have h2 : (ba x).size ≤ maxLen := by rw [ba_size]; exact hx
  have h3 : keyOf Tryz.prog 9 (.string (ba x)) = mapKey Tryz.prog 9 (.string (ba x)) := by simp [keyOf, Tryz.underlying9]
  rw [h3]
  simp [mapKey, Tryz.underlying9, h2, ba_list]
noncomputable def strK : KeyL 9 (List UInt8) where
  kv := fun x => .string (ba x)
  fits := fun x => x.length ≤ maxLen
  kk := fun x => .string x
  keyed := Maps.string_keyed Tryz.underlying9
  of := strK_of
  inj := fun x y _ _ h => by injection h
end Go.Proofs.YtomcdhmcjndioaaGreatDoor
end
