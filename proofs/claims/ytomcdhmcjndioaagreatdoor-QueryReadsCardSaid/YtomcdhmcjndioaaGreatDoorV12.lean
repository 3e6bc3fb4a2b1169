/- Reference 1: the contract of Text. Reference 1: the contract of Text. Reference 1: the contract of Parse. Reference 1: Parse of a text that begins with '-', where the least value is 0; and of any text. The reference of layer 37: Flag and size (printed by gen_rflag.py). -/
import Derived.Deep.QuietTactic
import Derived.IntWalk
import Derived.BigQuiet
import Derived.Test.YtomcdhmcjndioaaGreatDoorV04
import Derived.Test.YtomcdhmcjndioaaGreatDoorV03
import Derived.Test.YtomcdhmcjndioaaGreatDoorV05
import Derived.Test.YtomcdhmcjndioaaGreatDoorV06
section
namespace Go.Proofs.YtomcdhmcjndioaaGreatDoor
open Go.RowKit
set_option linter.unusedVariables false

/-- Decimal digits. -/
def natT (n : Nat) : List UInt8 := if h : n < 10 then [UInt8.ofNat (48 + n)] else natT (n / 10) ++ [UInt8.ofNat (48 + n % 10)]
termination_by n
decreasing_by omega
def textT (v : Int) : List UInt8 := if v < 0 then 45 :: natT (-v).toNat else natT v.toNat
theorem natT_small {n : Nat} (h : n < 10) : natT n = [UInt8.ofNat (48 + n)] := by unfold natT; rw [dif_pos h]
theorem natT_big {n : Nat} (h : ¬ n < 10) : natT n = natT (n / 10) ++ [UInt8.ofNat (48 + n % 10)] := by conv => lhs; unfold natT; rw [dif_neg h]
theorem decV_snoc (l : List UInt8) (c : UInt8) : decV (l ++ [c]) = decV l * 10 + (c.toNat - 48) := by unfold decV; rw [List.foldl_append]; rfl
theorem decV_pos (l : List UInt8) (a : Nat) (h : 0 < a) : 0 < l.foldl (fun a c => a * 10 + (c.toNat - 48)) a := Nat.lt_of_lt_of_le h (decA_ge l a)
/-- Canonical digits are the text of their number. -/
theorem natT_decV : ∀ (n : Nat) (d : List UInt8), d.length ≤ n → d.all digitB = true → d ≠ [] → ¬ (d.head? = some 48 ∧ d ≠ [48]) → natT (decV d) = d
  | 0, d, h, _, h2, _ => absurd (List.eq_nil_of_length_eq_zero (by omega)) h2
  | n + 1, d, h, h1, h2, h3 => by
    obtain ⟨d', c, rfl⟩ : ∃ d' c, d = d' ++ [c] := ⟨d.dropLast, d.getLast h2, (List.dropLast_concat_getLast h2).symm⟩
    rw [List.all_append, Bool.and_eq_true] at h1
    have hc : digitB c = true := by simpa using h1.2
    have hc2 := digitB_nat.1 hc
    have hcc : UInt8.ofNat (48 + (c.toNat - 48)) = c := by
      rw [show 48 + (c.toNat - 48) = c.toNat by omega]
      simp
    rw [decV_snoc]
    by_cases hd : d' = []
    · subst hd
      show natT (0 * 10 + (c.toNat - 48)) = [c]
      rw [Nat.zero_mul, Nat.zero_add, natT_small (by omega), hcc]
    · obtain ⟨a, r, rfl⟩ : ∃ a r, d' = a :: r := by
        cases d' with
        | nil => exact absurd rfl hd
        | cons a r => exact ⟨a, r, rfl⟩
      have ha : a ≠ 48 := fun e => h3 ⟨by rw [e]; rfl, fun e2 => by simp at e2⟩
      have hda : digitB a = true := by have := h1.1; rw [List.all_cons, Bool.and_eq_true] at this; exact this.1
      have ha2 := digitB_nat.1 hda
      have ha3 : a.toNat ≠ 48 := fun e => ha (by rw [← UInt8.toNat_inj]; exact e)
      have hpos : 0 < decV (a :: r) := decV_pos r _ (by show 0 < 0 * 10 + (a.toNat - 48); omega)
      have h9 : (a :: r ++ [c]).length = (a :: r).length + 1 := by rw [List.length_append]; rfl
      have ih := natT_decV n (a :: r) (by omega) h1.1 hd (fun h8 => ha (Option.some.inj h8.1))
      have e1 : (decV (a :: r) * 10 + (c.toNat - 48)) / 10 = decV (a :: r) := by omega
      have e2 : (decV (a :: r) * 10 + (c.toNat - 48)) % 10 = c.toNat - 48 := by omega
      rw [natT_big (by omega), e1, e2, ih, hcc]
theorem natT_all (n : Nat) : (natT n).all digitB = true ∧ natT n ≠ [] ∧ decV (natT n) = n ∧ ((natT n).head? = some 48 → natT n = [48]) := by
  induction n using Nat.strongRecOn with
  | _ n ih =>
    have hd : ∀ k, k < 10 → digitB (UInt8.ofNat (48 + k)) = true ∧ (UInt8.ofNat (48 + k)).toNat = 48 + k := fun k hk => by
      have e : (UInt8.ofNat (48 + k)).toNat = 48 + k := by rw [UInt8.toNat_ofNat']; omega
      exact ⟨digitB_nat.2 (by omega), e⟩
    by_cases h : n < 10
    · rw [natT_small h]
      obtain ⟨h1, h2⟩ := hd n h
      refine ⟨by rw [List.all_cons, h1]; rfl, by simp, ?_, fun e => ?_⟩
      · show 0 * 10 + ((UInt8.ofNat (48 + n)).toNat - 48) = n
        omega
      · rw [Option.some.inj e]
    · obtain ⟨i1, i2, i3, i4⟩ := ih (n / 10) (by omega)
      obtain ⟨h1, h2⟩ := hd (n % 10) (by omega)
      rw [natT_big h]
      refine ⟨by rw [List.all_append, i1, List.all_cons, h1]; rfl, by simp, ?_, fun e => ?_⟩
      · rw [decV_snoc, i3]
        omega
      · exfalso
        have e5 : (natT (n / 10)).head? = some 48 := by
          cases hq : natT (n / 10) with
          | nil => exact absurd hq i2
          | cons a r => rw [hq] at e; exact e
        have h5 := i4 e5
        rw [h5] at i3
        have h6 : decV [48] = 0 := by decide
        omega
theorem textT_canon {l : List UInt8} (h : canonB l) : textT (decN l) = l := by
  obtain ⟨h1, h2, h3⟩ := h
  unfold decN
  by_cases e : l.head? = some 45
  · rw [if_pos e]
    obtain ⟨r, rfl⟩ : ∃ r, l = 45 :: r := by
      cases l with
      | nil => cases e
      | cons c r => exact ⟨r, by rw [Option.some.inj e]⟩
    have hd : decD (45 :: r) = r := rfl
    rw [hd] at h1 h2 h3 ⊢
    have hh : r.head? ≠ some 48 := fun e => h3 ⟨e, fun e2 => by simp at e2⟩
    have hv := natT_decV _ r (Nat.le_refl _) h1 h2 (fun h => hh h.1)
    have hp : 0 < decV r := by
      cases r with
      | nil => exact absurd rfl h2
      | cons a r' =>
        rw [List.all_cons, Bool.and_eq_true] at h1
        have ha2 := digitB_nat.1 h1.1
        have ha3 : a.toNat ≠ 48 := fun e => hh (by rw [show a = 48 by rw [← UInt8.toNat_inj]; exact e]; rfl)
        exact decV_pos r' _ (by show 0 < 0 * 10 + (a.toNat - 48); omega)
    unfold textT
    rw [if_pos (by omega), show (-(-(decV r : Int))).toNat = decV r by omega, hv]
  · rw [if_neg e]
    have hd : decD l = l := by unfold decD; rw [if_neg e]
    rw [hd] at h1 h2 h3 ⊢
    unfold textT
    rw [if_neg (by omega), show ((decV l : Int)).toNat = decV l by omega, natT_decV _ l (Nat.le_refl _) h1 h2 h3]
theorem textT_isCanon (v : Int) : canonB (textT v) ∧ decN (textT v) = v := by
  unfold textT canonB decN decD
  by_cases h : v < 0
  · rw [if_pos h]
    obtain ⟨h1, h2, h3, h4⟩ := natT_all (-v).toNat
    have e : (45 :: natT (-v).toNat).head? = some 45 := rfl
    rw [if_pos e, if_pos e]
    refine ⟨⟨h1, h2, fun ⟨e1, _⟩ => ?_⟩, ?_⟩
    · have h5 := h4 e1
      show False
      rw [h5] at h3
      have h6 : decV [48] = 0 := by decide
      omega
    · show -(decV (natT (-v).toNat) : Int) = v
      rw [h3]
      omega
  · rw [if_neg h]
    obtain ⟨h1, h2, h3, h4⟩ := natT_all v.toNat
    have e : ¬ (natT v.toNat).head? = some 45 := fun e => by
      cases hn : natT v.toNat with
      | nil => exact h2 hn
      | cons a r =>
        rw [hn] at e h1
        have h7 : a = 45 := Option.some.inj e
        rw [List.all_cons, Bool.and_eq_true, h7] at h1
        exact absurd h1.1 (by decide)
    rw [if_neg e, if_neg e]
    exact ⟨⟨h1, h2, fun ⟨e1, e2⟩ => e2 (h4 e1)⟩, by rw [h3]; omega⟩
theorem textT_low {v : Int} (h : v < 0) (h2 : -10 < v) : textT v = [45, UInt8.ofNat (48 - v).toNat] := by
  unfold textT
  rw [if_pos h, natT_small (by omega), show 48 + (-v).toNat = (48 - v).toNat by omega]
theorem textT_digit {v : Int} (h : 0 ≤ v) (h2 : v < 10) : textT v = [UInt8.ofNat (48 + v).toNat] := by
  unfold textT
  rw [if_neg (by omega), natT_small (by omega), show 48 + v.toNat = (48 + v).toNat by omega]
theorem textT_neg {v : Int} (h : v ≤ -10) : textT v = textT (v.tdiv 10) ++ [UInt8.ofNat (48 - v.tmod 10).toNat] := by
  have e1 : v.tdiv 10 = -((-v).toNat / 10 : Nat) := by
    obtain ⟨n, hn⟩ : ∃ n : Nat, v = -(n : Int) := ⟨(-v).toNat, by omega⟩
    subst hn
    rw [Int.neg_tdiv, show (-(-(n : Int))).toNat = n by omega]
    rfl
  have e2 : v.tmod 10 = -((-v).toNat % 10 : Nat) := by
    obtain ⟨n, hn⟩ : ∃ n : Nat, v = -(n : Int) := ⟨(-v).toNat, by omega⟩
    subst hn
    rw [Int.neg_tmod, show (-(-(n : Int))).toNat = n by omega]
    rfl
  rw [e1, e2]
  unfold textT
  rw [if_pos (by omega), if_pos (by omega), natT_big (n := (-v).toNat) (by omega)]
  rw [show (-(-(((-v).toNat / 10 : Nat) : Int))).toNat = (-v).toNat / 10 by omega, show (48 - -(((-v).toNat % 10 : Nat) : Int)).toNat = 48 + (-v).toNat % 10 by omega]
  rfl
theorem textT_pos {v : Int} (h : 10 ≤ v) : textT v = textT (v.tdiv 10) ++ [UInt8.ofNat (48 + v.tmod 10).toNat] := by
  have e1 : v.tdiv 10 = (v.toNat / 10 : Nat) := by
    obtain ⟨n, hn⟩ : ∃ n : Nat, v = (n : Int) := ⟨v.toNat, by omega⟩
    subst hn
    rfl
  have e2 : v.tmod 10 = (v.toNat % 10 : Nat) := by
    obtain ⟨n, hn⟩ : ∃ n : Nat, v = (n : Int) := ⟨v.toNat, by omega⟩
    subst hn
    rfl
  rw [e1, e2]
  unfold textT
  rw [if_neg (by omega), if_neg (by omega), natT_big (n := v.toNat) (by omega)]
  rw [show (((v.toNat / 10 : Nat) : Int)).toNat = v.toNat / 10 by omega, show (48 + ((v.toNat % 10 : Nat) : Int)).toNat = 48 + v.toNat % 10 by omega]
end Go.Proofs.YtomcdhmcjndioaaGreatDoor
end
section
namespace Go.Proofs.YtomcdhmcjndioaaGreatDoor
open Go.RowKit
set_option linter.unusedVariables false

theorem wrap_u8 (z : UInt8) : IntKind.u8.wrap (z.toNat : Int) = (z.toNat : Int) := by
  have := z.toNat_lt
  unfold IntKind.wrap
  simp [IntKind.signed, IntKind.bits]
  omega
theorem str_fin {w w' : World} {l : List UInt8} {t : ByteArray} (ht : t = ba l) (hb : Below w.heap.size w w') : StrB w l (.returned (.string t)) w' := by
  subst ht
  exact ⟨rfl, hb⟩
theorem ofNat_val {x : Int} (h0 : 0 ≤ x) (h1 : x ≤ 255) : ((UInt8.ofNat x.toNat).toNat : Int) = x := by
  rw [UInt8.toNat_ofNat']
  omega
theorem below_a {w w9 : World} (h : Below w.drew.heap.size w.drew w9) (o : Obj) : Below w.heap.size w (w9.alloc o) := ((Below.refl _ _).drew.trans h).alloc h.size o
theorem below_b {w w9 : World} {o : Obj} (h : Below (w.alloc o).drew.heap.size (w.alloc o).drew w9) : Below w.heap.size w w9 := ((Below.refl _ _).alloc (Nat.le_refl _) o).drew.trans (h.mono (by simp))
theorem new_cell (W : World) (u : Value) (t : TypeId) : (W.alloc (.cells #[u] t)).cell? ⟨W.heap.size, 0, none⟩ = some u := by simp
theorem natT_len : ∀ (f n : Nat), n < 10 ^ f → (natT n).length ≤ f + 1
  | 0, n, h => by
    rw [natT_small (by omega)]
    simp
  | f + 1, n, h => by
    by_cases h2 : n < 10
    · rw [natT_small h2]; simp
    · rw [natT_big h2, List.length_append]
      have h3 : n / 10 < 10 ^ f := by rw [Nat.pow_succ] at h; omega
      have := natT_len f (n / 10) h3
      simp
      omega
theorem textT_len (v : Int) (h0 : -9223372036854775808 ≤ v) (h1 : v ≤ 9223372036854775807) : (textT v).length ≤ 30 := by
  unfold textT
  split
  · have := natT_len 20 (-v).toNat (by omega)
    simp only [List.length_cons]
    omega
  · have := natT_len 20 v.toNat (by omega)
    omega
theorem conv_one {W : World} {b : Nat} {x : Int} (h0 : 0 ≤ x) (h1 : x ≤ 255) (hc : W.cell? ⟨b, 0, none⟩ = some (.int .u8 x)) : (convert 93 9 (.slice (some ⟨b, 0, none⟩) 1 1)).run Tryz.prog W = .ok (.string (ba [UInt8.ofNat x.toNat])) W :=
  run_convert_bytes_back W 93 9 5 ⟨b, 0, none⟩ 1 [UInt8.ofNat x.toNat] Tryz.underlying93 Tryz.underlying5 Tryz.underlying9 fun j hj => by
    have h : j = 0 := by simp at hj; exact hj
    subst h
    have e : (Addr.add ⟨b, 0, none⟩ 0) = ⟨b, 0, none⟩ := rfl
    rw [e, hc]
    show some (Value.int .u8 x) = some (Value.int .u8 ((UInt8.ofNat x.toNat).toNat : Int))
    rw [ofNat_val h0 h1]
set_option maxRecDepth 100000 in
set_option maxHeartbeats 600000 in
theorem rtextn_any (n : Nat) : ∀ (v : Int) (w : World), (v.natAbs ≤ n) → -9223372036854775808 ≤ v → v ≤ 9223372036854775807 →
    Calls Tryz.prog 132 #[.int .i64 v] w (StrB w (textT v)) := by
  induction n using Nat.strongRecOn with
  | _ n ih =>
    intro v w hn h0 h1
    by_cases hneg : v < 0
    · by_cases hlow : -10 < v
      · have HT := Lib.hid (textT_low hneg hlow)
        have HU := Lib.hid (ofNat_val (x := 48 - v) (by omega) (by omega))
        have hcv := conv_one (W := w.alloc (.cells #[.int .u8 (48 - v)] 5)) (b := w.heap.size) (x := 48 - v) (by omega) (by omega) (by simp)
        obtain ⟨z, hz⟩ : ∃ z, UInt8.ofNat (48 - v).toNat = z := ⟨_, rfl⟩
        rw [hz] at hcv HT
        have hap := ba_append [45] [z]
        have hb0 : ba [45] = ⟨#[45]⟩ := rfl
        rw [hb0] at hap
        have hln : ¬ 9223372036854775807 < 1 + (ba [z]).size := by rw [ba_size]; simp
        clear ih hn hz hb0
        go_enter Tryz.func132, Tryz.ntmps132
        go_wp2
        go_ret
        exact str_fin (by rw [HT.out]) ((Below.refl _ _).alloc (Nat.le_refl _) _)
      · have HT := Lib.hid (textT_neg (v := v) (by omega))
        obtain ⟨k, hk⟩ : ∃ k : Nat, v = -(k : Int) := ⟨(-v).toNat, by omega⟩
        have hq : v.tdiv 10 = -((k / 10 : Nat) : Int) := by rw [hk, Int.neg_tdiv]; rfl
        have hr : v.tmod 10 = -((k % 10 : Nat) : Int) := by rw [hk, Int.neg_tmod]; rfl
        have hqb : -922337203685477580 ≤ v.tdiv 10 ∧ v.tdiv 10 < 0 := by rw [hq]; omega
        have hrb : -9 ≤ v.tmod 10 ∧ v.tmod 10 ≤ 0 := by rw [hr]; omega
        have hqn : (v.tdiv 10).natAbs < n := by rw [hq]; omega
        clear hk hq hr
        obtain ⟨q, hq⟩ : ∃ q, v.tdiv 10 = q := ⟨_, rfl⟩
        obtain ⟨r, hr⟩ : ∃ r, v.tmod 10 = r := ⟨_, rfl⟩
        rw [hq] at HT hqb hqn
        rw [hr] at HT hrb
        obtain ⟨hq0, hq1⟩ := hqb
        obtain ⟨hr0, hr1⟩ := hrb
        have HIH := Lib.hid (fun W => ih q.natAbs hqn q W (Nat.le_refl _) (by omega) (by omega))
        have hcv := conv_one (W := (w.alloc (.cells #[.int .u8 (48 - r)] 5)).drew) (b := w.heap.size) (x := 48 - r) (by omega) (by omega) (new_cell w.drew _ _)
        obtain ⟨z, hz⟩ : ∃ z, UInt8.ofNat (48 - r).toNat = z := ⟨_, rfl⟩
        have HZ := Lib.hid hz
        rw [hz] at hcv HT
        have HKX := Lib.hid (show ∀ W', Below ((w.alloc (.cells #[.int .u8 (48 - r)] 5)).drew).heap.size ((w.alloc (.cells #[.int .u8 (48 - r)] 5)).drew) W' → (convert 93 9 (.slice (some ⟨w.heap.size, 0, none⟩) 1 1)).run Tryz.prog W' = .ok (.string (ba [z])) W' from fun W' hW => by
          have hsz9 : w.heap.size < ((w.alloc (.cells #[.int .u8 (48 - r)] 5)).drew).heap.size := by simp
          have h9 := conv_one (W := W') (b := w.heap.size) (x := 48 - r) (by omega) (by omega) ((hW.cell (p := ⟨w.heap.size, 0, none⟩) hsz9).trans (new_cell w _ _))
          rw [hz] at h9
          exact h9)
        obtain ⟨t, ht⟩  : ∃ t, textT q = t := ⟨_, rfl⟩
        have htl : t.length ≤ 30 := by rw [← ht]; exact textT_len q (by omega) (by omega)
        rw [ht] at HT
        unfold StrB at HIH
        simp only [ht] at HIH
        have hap := ba_append t [z]
        have hln : ¬ 9223372036854775807 < (ba t).size + (ba [z]).size := by rw [ba_size, ba_size]; simp; omega
        have HTL := Lib.hid htl
        have hw1 : IntKind.i64.wrap q = q := IntWalk.i64_in _ (by omega)
        have hw2 : IntKind.i64.wrap (48 - r) = 48 - r := IntWalk.i64_in _ (by omega)
        have hw3 : IntKind.u8.wrap (48 - r) = 48 - r := by rw [← ofNat_val (x := 48 - r) (by omega) (by omega)]; exact wrap_u8 _
        clear  ih hn hqn hz ht htl
        go_enter Tryz.func132, Tryz.ntmps132
        go_wp2
        go_region_with
          (go_at_call 132; refine (HIH.out _).mono ?_; rintro e w9 ⟨rfl, hb9⟩; (
            have HB9 := Lib.hid hb9
            have hcw := conv_one (W := w9.alloc (.cells #[.int .u8 (48 - r)] 5)) (b := w9.heap.size) (x := 48 - r) (by omega) (by omega) (by simp)
            rw [HZ.out] at hcw
            (first
              | (have hcx := HKX.out _ hb9)
              | skip)
            clear hb9))
        all_goals
          go_wp2
          go_ret
          first
            | exact str_fin (by rw [HT.out]) (below_a HB9.out _)
            | exact str_fin (by rw [HT.out]) (below_b HB9.out)
    · by_cases hlow : v < 10
      · have HT := Lib.hid (textT_digit (v := v) (by omega) hlow)
        have hcv := conv_one (W := w.alloc (.cells #[.int .u8 (48 + v)] 5)) (b := w.heap.size) (x := 48 + v) (by omega) (by omega) (by simp)
        obtain ⟨z, hz⟩ : ∃ z, UInt8.ofNat (48 + v).toNat = z := ⟨_, rfl⟩
        rw [hz] at hcv HT
        clear ih hn hz
        go_enter Tryz.func132, Tryz.ntmps132
        go_wp2
        go_ret
        exact str_fin (by rw [HT.out]) ((Below.refl _ _).alloc (Nat.le_refl _) _)
      · have HT := Lib.hid (textT_pos (v := v) (by omega))
        obtain ⟨k, hk⟩ : ∃ k : Nat, v = (k : Int) := ⟨v.toNat, by omega⟩
        have hq : v.tdiv 10 = ((k / 10 : Nat) : Int) := by rw [hk]; rfl
        have hr : v.tmod 10 = ((k % 10 : Nat) : Int) := by rw [hk]; rfl
        have hqb : 0 < v.tdiv 10 ∧ v.tdiv 10 ≤ 922337203685477580 := by rw [hq]; omega
        have hrb : 0 ≤ v.tmod 10 ∧ v.tmod 10 ≤ 9 := by rw [hr]; omega
        have hqn : (v.tdiv 10).natAbs < n := by rw [hq]; omega
        clear hk hq hr
        obtain ⟨q, hq⟩ : ∃ q, v.tdiv 10 = q := ⟨_, rfl⟩
        obtain ⟨r, hr⟩ : ∃ r, v.tmod 10 = r := ⟨_, rfl⟩
        rw [hq] at HT hqb hqn
        rw [hr] at HT hrb
        obtain ⟨hq0, hq1⟩ := hqb
        obtain ⟨hr0, hr1⟩ := hrb
        have HIH := Lib.hid (fun W => ih q.natAbs hqn q W (Nat.le_refl _) (by omega) (by omega))
        have hcv := conv_one (W := (w.alloc (.cells #[.int .u8 (48 + r)] 5)).drew) (b := w.heap.size) (x := 48 + r) (by omega) (by omega) (new_cell w.drew _ _)
        obtain ⟨z, hz⟩ : ∃ z, UInt8.ofNat (48 + r).toNat = z := ⟨_, rfl⟩
        have HZ := Lib.hid hz
        rw [hz] at hcv HT
        have HKX := Lib.hid (show ∀ W', Below ((w.alloc (.cells #[.int .u8 (48 + r)] 5)).drew).heap.size ((w.alloc (.cells #[.int .u8 (48 + r)] 5)).drew) W' → (convert 93 9 (.slice (some ⟨w.heap.size, 0, none⟩) 1 1)).run Tryz.prog W' = .ok (.string (ba [z])) W' from fun W' hW => by
          have hsz9 : w.heap.size < ((w.alloc (.cells #[.int .u8 (48 + r)] 5)).drew).heap.size := by simp
          have h9 := conv_one (W := W') (b := w.heap.size) (x := 48 + r) (by omega) (by omega) ((hW.cell (p := ⟨w.heap.size, 0, none⟩) hsz9).trans (new_cell w _ _))
          rw [hz] at h9
          exact h9)
        obtain ⟨t, ht⟩  : ∃ t, textT q = t := ⟨_, rfl⟩
        have htl : t.length ≤ 30 := by rw [← ht]; exact textT_len q (by omega) (by omega)
        rw [ht] at HT
        unfold StrB at HIH
        simp only [ht] at HIH
        have hap := ba_append t [z]
        have hln : ¬ 9223372036854775807 < (ba t).size + (ba [z]).size := by rw [ba_size, ba_size]; simp; omega
        have HTL := Lib.hid htl
        have hw1 : IntKind.i64.wrap q = q := IntWalk.i64_in _ (by omega)
        have hw2 : IntKind.i64.wrap (48 + r) = 48 + r := IntWalk.i64_in _ (by omega)
        have hw3 : IntKind.u8.wrap (48 + r) = 48 + r := by rw [← ofNat_val (x := 48 + r) (by omega) (by omega)]; exact wrap_u8 _
        clear  ih hn hqn hz ht htl
        go_enter Tryz.func132, Tryz.ntmps132
        go_wp2
        go_region_with
          (go_at_call 132; refine (HIH.out _).mono ?_; rintro e w9 ⟨rfl, hb9⟩; (
            have HB9 := Lib.hid hb9
            have hcw := conv_one (W := w9.alloc (.cells #[.int .u8 (48 + r)] 5)) (b := w9.heap.size) (x := 48 + r) (by omega) (by omega) (by simp)
            rw [HZ.out] at hcw
            (first
              | (have hcx := HKX.out _ hb9)
              | skip)
            clear hb9))
        all_goals
          go_wp2
          go_ret
          first
            | exact str_fin (by rw [HT.out]) (below_a HB9.out _)
            | exact str_fin (by rw [HT.out]) (below_b HB9.out)
theorem rtextv_any (v : Int) (w : World) (h0 : -9223372036854775808 ≤ v) (h1 : v ≤ 9223372036854775807) : Calls Tryz.prog 132 #[.int .i64 v] w (StrB w (textT v)) := rtextn_any v.natAbs v w (Nat.le_refl _) h0 h1
end Go.Proofs.YtomcdhmcjndioaaGreatDoor
end
section
namespace Go.Proofs.YtomcdhmcjndioaaGreatDoor
open Go.RowKit
set_option linter.unusedVariables false

/-- The state of Parse's loop: k digits are read. -/
structure PaSt (d : List UInt8) (k : Nat) (n : Int) : Prop where
  dig : (d.take k).all digitB = true
  val : n = -(decA 0 (d.take k) : Int)
  low : -9223372036854775808 ≤ n
theorem PaSt.start (d : List UInt8) : PaSt d 0 0 := ⟨rfl, rfl, by omega⟩
theorem PaSt.neg {d : List UInt8} {k : Nat} {n : Int} (h : PaSt d k n) : n ≤ 0 := by have := h.val; omega
theorem decA_snoc (a : Nat) (l : List UInt8) (c : UInt8) : decA a (l ++ [c]) = decA a l * 10 + (c.toNat - 48) := by unfold decA; rw [List.foldl_append]; rfl
theorem dec_take {d : List UInt8} {k : Nat} (hk : k < d.length) : decA 0 (d.take (k + 1)) = decA 0 (d.take k) * 10 + (d[k].toNat - 48) := by rw [List.take_succ_eq_append_getElem hk, decA_snoc]
theorem dec_le (d : List UInt8) (k : Nat) : decA 0 (d.take k) ≤ decV d := by
  have h : decV d = decA (decA 0 (d.take k)) (d.drop k) := by
    show decA 0 d = _
    conv => lhs; rw [← List.take_append_drop k d]
    unfold decA
    rw [List.foldl_append]
  rw [h]
  exact decA_ge _ _
theorem PaSt.next {d : List UInt8} {k : Nat} {n y : Int} (hk : k < d.length) (h : PaSt d k n) (hy : (d[k].toNat : Int) = y + 48) (h0 : 0 ≤ y) (h9 : y ≤ 9) (hlow : -9223372036854775808 ≤ 10 * n - y) : PaSt d (k + 1) (10 * n - y) := by
  refine ⟨?_, ?_, hlow⟩
  · rw [List.take_succ_eq_append_getElem hk, List.all_append, h.dig]
    have : digitB d[k] = true := digitB_nat.2 (by omega)
    simp [this]
  · rw [dec_take hk, h.val]
    omega
theorem parse_bad {l d : List UInt8} {k : Nat} (hd : decD l = d) (hk : k < d.length) {y : Int} (hy : (d[k].toNat : Int) = y + 48) (hb : y < 0 ∨ 9 < y) (lo hi : Int) : decP l lo hi = none := by
  rw [decP_eq, if_neg]
  rintro ⟨⟨h1, _⟩, _⟩
  rw [hd] at h1
  have := digitB_nat.1 (List.all_eq_true.1 h1 _ (List.getElem_mem hk))
  omega
theorem parse_far {l d : List UInt8} (hd : decD l = d) {lo hi : Int} (hlo : -9223372036854775808 ≤ lo) (hhi : hi ≤ 9223372036854775807) (h : 9223372036854775808 < decV d) : decP l lo hi = none := by
  rw [decP_eq, if_neg]
  rintro ⟨_, h1, h2⟩
  have h3 : decN l = -(decV (decD l) : Int) ∨ decN l = (decV (decD l) : Int) := by
    unfold decN
    split
    · exact .inl rfl
    · exact .inr rfl
  rw [hd] at h3
  omega
theorem parse_over {l d : List UInt8} {k : Nat} {n y : Int} (hd : decD l = d) (hk : k < d.length) (h : PaSt d k n) (hy : (d[k].toNat : Int) = y + 48) (h0 : 0 ≤ y) (hlow : 10 * n - y < -9223372036854775808) {lo hi : Int} (hlo : -9223372036854775808 ≤ lo) (hhi : hi ≤ 9223372036854775807) : decP l lo hi = none := by
  refine parse_far hd hlo hhi ?_
  have h1 := dec_le d (k + 1)
  rw [dec_take hk] at h1
  have := h.val
  omega
theorem parse_end {l : List UInt8} {v : Int} (hv : decN l = v) (lo hi : Int) : decP l lo hi = if textT v = l ∧ lo ≤ v ∧ v ≤ hi then some v else none := by
  rw [decP_eq, hv]
  have : canonB l ↔ textT v = l := by
    constructor
    · intro h
      rw [← hv]
      exact textT_canon h
    · intro h
      rw [← h]
      exact (textT_isCanon v).1
  simp only [this]
theorem min_div {y : Int} (h0 : 0 ≤ y) (h1 : y ≤ 9) : (-9223372036854775808 + y).tdiv 10 = -((9223372036854775808 - y) / 10) := by
  rw [show -9223372036854775808 + y = -(9223372036854775808 - y) by omega, Int.neg_tdiv, Int.tdiv_eq_ediv_of_nonneg (by omega)]
theorem decD_neg {r : List UInt8} : decD (45 :: r) = r := rfl
theorem decN_neg {r : List UInt8} : decN (45 :: r) = -(decV r : Int) := rfl
theorem decD_pos {l : List UInt8} (h : ¬ l.head? = some 45) : decD l = l := by unfold decD; rw [if_neg h]
theorem decN_pos {l : List UInt8} (h : ¬ l.head? = some 45) : decN l = (decV l : Int) := by unfold decN; rw [if_neg h, decD_pos h]
/-- The text of the number met against the string. -/
theorem text_tests (t l : List UInt8) (s : ByteArray) (hs : ba l = s) : (t = l → (ba t).toList = s.toList) ∧ (¬ t = l → ¬ (ba t).toList = s.toList) := by
  rw [← hs, ba_toList, ba_toList]
  exact ⟨id, id⟩
set_option maxRecDepth 100000 in
set_option maxHeartbeats 4000000 in
theorem rparse_pos (l : List UInt8) (hh : ¬ l.head? = some 45) (lo hi : Int) (w : World) (hl : l.length ≤ 1000000000) (hlo : -9223372036854775808 ≤ lo) (hhi : hi ≤ 9223372036854775807) :
    Calls Tryz.prog 118 #[.string (ba l), .int .i64 lo, .int .i64 hi] w (ParsePost w (decP l lo hi)) := by
  have HDD := Lib.hid (decD_pos hh)
  have HDN := Lib.hid (decN_pos hh)
  have HEND := Lib.hid (fun v (hv : decN l = v) => parse_end hv lo hi)
  have HTT := Lib.hid (fun t => text_tests t l (ba l) rfl)
  have HFAR := Lib.hid (parse_far (lo := lo) (hi := hi) HDD.out hlo hhi)
  have HHD := Lib.hid hh
  clear hh
  have HBAD := Lib.hid (fun k (hk : k < l.length) (y : Int) hy hb => parse_bad (y := y) HDD.out hk hy hb lo hi)
  have HOV := Lib.hid (fun k (hk : k < l.length) (n y : Int) (h : PaSt l k n) hy h0 hlow => parse_over (y := y) HDD.out hk h hy h0 hlow hlo hhi)
  have HNX := Lib.hid (fun k (hk : k < l.length) (n y : Int) (h : PaSt l k n) hy h0 h9 hlow => PaSt.next (y := y) hk h hy h0 h9 hlow)
  obtain ⟨o, ho⟩ : ∃ o, decP l lo hi = o := ⟨_, rfl⟩
  simp only [ho] at HEND HFAR HBAD HOV
  rw [ho]
  clear ho
  obtain ⟨n, hn⟩ : ∃ n, l.length = n := ⟨_, rfl⟩
  have HL := Lib.hid hn
  obtain ⟨s, hs⟩ : ∃ s, ba l = s := ⟨_, rfl⟩
  have HS := Lib.hid hs
  have HZ := Lib.hid (show s.size = n by rw [← hs, ba_size, hn])
  have hsz : (s.size : Int) = n := by rw [HZ.out]
  rw [hs]
  rw [hn] at hl
  clear hs hn
  rw [HS.out] at HTT
  have hfirst : n = 0 ∨ (0 < n ∧ 0 < s.size ∧ ∀ h : 0 < s.size, ((s[0]'h).toNat : Int) ≠ 45) := by
    cases hq : l with
    | nil => exact .inl (by rw [← HL.out, hq]; rfl)
    | cons c r =>
      have hn0 : 0 < n := by rw [← HL.out, hq]; simp
      refine .inr ⟨hn0, by rw [HZ.out]; exact hn0, fun h e => ?_⟩
      have hS := HS.out
      subst hS
      have e1 : (ba l)[0] = c := by
        have : (ba l)[0] = l[0]'(by rw [HL.out]; exact hn0) := rfl
        rw [this]
        simp [hq]
      rw [e1] at e
      exact HHD.out (by rw [hq]; exact congrArg some (UInt8.toNat_inj.1 (by show c.toNat = 45; omega)))
  rcases hfirst with hn0 | ⟨hn0, hs0, hne⟩
  · have HV := Lib.hid (show o = none by
      have h := HEND.out 0 (by
        rw [HDN.out]
        have hq : l = [] := List.eq_nil_of_length_eq_zero (by rw [HL.out]; exact hn0)
        rw [hq]
        rfl)
      rw [h, if_neg]
      rintro ⟨h1, _⟩
      have hq : l = [] := List.eq_nil_of_length_eq_zero (by rw [HL.out]; exact hn0)
      rw [hq] at h1
      exact absurd h1 (by rw [textT_digit (by omega) (by omega)]; simp))
    have g1 : ¬ (0 : Int) < (n : Int) := by omega
    have g2 : decide ((0 : Int) < (n : Int)) = false := decide_eq_false g1
    have g3 := (HTT.out (textT 0)).2 (by
      have hq : l = [] := List.eq_nil_of_length_eq_zero (by rw [HL.out]; exact hn0)
      rw [hq, textT_digit (by omega) (by omega)]
      simp)
    have HTX := Lib.hid (rtextv_any 0 w (by omega) (by omega))
    unfold StrB at HTX
    obtain ⟨t, ht⟩ : ∃ t, textT 0 = t := ⟨_, rfl⟩
    rw [ht] at g3
    simp only [ht] at HTX
    have g4 : ((ba t).toList == s.toList) = false := by simpa using g3
    have g5 : ((ba t).toList != s.toList) = true := by simpa using g3
    clear ht
    subst hn0
    go_enter Tryz.func118, Tryz.ntmps118
    go_wp2
    go_loop [10, 11, 12] (fun nn i c => ∃ y : Value, c = y ∧ nn = .int .i64 0 ∧ i = .int .i64 0) (fun _ _ _ => 0)
    case atStart => exact ⟨_, rfl, rfl, rfl⟩
    case round =>
      obtain ⟨y, rfl, rfl, rfl⟩ := hrel
      go_wp2_with fail
      refine HTX.out.mono ?_
      rintro e w2 ⟨rfl, hb2⟩
      have HB2 := Lib.hid hb2
      clear hb2
      go_wp2
      go_ret2
      exact parse_none HV.out HB2.out
  · have hne2 := hne hs0
    have g0 : (((s[0]'hs0).toNat : Int) == 45) = false := by simpa using hne2
    have g1 : (0 : Int) < (n : Int) := by omega
    have g2 : decide ((0 : Int) < (n : Int)) = true := decide_eq_true g1
    clear hne
    go_enter Tryz.func118, Tryz.ntmps118
    go_wp2
    clear g1 g2
    go_loop [10, 11, 12] (fun nn i c => ∃ (k : Nat) (v : Int) (y : Value), c = y ∧ nn = .int .i64 v ∧ k ≤ n ∧ i = .int .i64 (k : Int) ∧ Hid (PaSt l k v)) (fun _ i _ => n - (intOf i).toNat)
    case atStart => exact ⟨0, 0, _, rfl, rfl, Nat.zero_le _, rfl, Lib.hid (PaSt.start l)⟩
    case round =>
      obtain ⟨k, v, y0, rfl, rfl, hk, rfl, HR⟩ := hrel
      have hv0 : v ≤ 0 := HR.out.neg
      have hv1 : -9223372036854775808 ≤ v := HR.out.low
      by_cases hlt : k < n
      · have hk2 : (k : Int) < (n : Int) := by omega
        have hk0 : (0 : Int) ≤ (k : Int) := by omega
        have hks : k < s.size := by rw [HZ.out]; omega
        have hkl : k < l.length := by rw [HL.out]; omega
        have hget : s[k] = l[k] := by
          have h := HS.out
          subst h
          rfl
        have HN1 := Lib.hid (HNX.out k hkl v)
        have HO1 := Lib.hid (HOV.out k hkl v)
        have HB1 := Lib.hid (HBAD.out k hkl)
        obtain ⟨y, hy⟩ : ∃ y : Int, (l[k].toNat : Int) = y + 48 := ⟨(l[k].toNat : Int) - 48, by omega⟩
        have hyb : -48 ≤ y ∧ y ≤ 207 := by have := l[k].toNat_lt; omega
        obtain ⟨hyb1, hyb2⟩ := hyb
        have hgi : ((s[k]).toNat : Int) = y + 48 := by rw [hget]; exact hy
        have HY := Lib.hid hy
        clear hy hget
        by_cases e1 : y < 0
        · have HV := Lib.hid (HB1.out y HY.out (.inl e1))
          have g1 : decide (y < 0) = true := decide_eq_true e1
          go_wp2
          go_ret2
          exact parse_none HV.out (Below.refl _ _)
        · have g1 : decide (y < 0) = false := decide_eq_false e1
          by_cases e2 : 9 < y
          · have HV := Lib.hid (HB1.out y HY.out (.inr e2))
            have g2 : decide (9 < y) = true := decide_eq_true e2
            go_wp2
            go_ret2
            exact parse_none HV.out (Below.refl _ _)
          · have g2 : decide (9 < y) = false := decide_eq_false e2
            have hq := min_div (y := y) (by omega) (by omega)
            obtain ⟨q, hqq⟩ : ∃ q, (-9223372036854775808 + y).tdiv 10 = q := ⟨_, rfl⟩
            rw [hqq] at hq
            have hq0 : -922337203685477580 ≤ q ∧ q ≤ -922337203685477579 := by omega
            have hw0 : IntKind.i64.wrap (-9223372036854775808 + y) = -9223372036854775808 + y := IntWalk.i64_in _ (by omega)
            have hw1 : IntKind.i64.wrap q = q := IntWalk.i64_in _ (by omega)
            by_cases e3 : v < q
            · have HV := Lib.hid (HO1.out y HR.out HY.out (by omega) (by omega))
              have g3 : decide (v < q) = true := decide_eq_true e3
              clear hq
              go_wp2
              go_ret2
              exact parse_none HV.out (Below.refl _ _)
            · have g3 : decide (v < q) = false := decide_eq_false e3
              have HNX2 := Lib.hid (HN1.out y HR.out HY.out (by omega) (by omega) (by omega))
              have hw2 : IntKind.i64.wrap (10 * v) = 10 * v := IntWalk.i64_in _ (by omega)
              have hw3 : IntKind.i64.wrap (10 * v - y) = 10 * v - y := IntWalk.i64_in _ (by omega)
              clear hq
              go_wp2
              go_round
              case rel => exact ⟨k + 1, 10 * v - y, _, rfl, rfl, by omega, by go_num, HNX2⟩
              case measure => simp [intOf] <;> omega
      · obtain rfl : k = n := by omega
        have HDV := Lib.hid (show v = -(decV l : Int) by
          have h := HR.out.val
          rw [List.take_of_length_le (by rw [HL.out]; exact Nat.le_refl _)] at h
          exact h)
        by_cases e1 : v = -9223372036854775808
        · have HV := Lib.hid (show o = none by
            have h := HEND.out (-v) (by rw [HDN.out, HDV.out]; omega)
            rw [h, if_neg]
            rintro ⟨_, _, h2⟩
            omega)
          subst e1
          go_wp2
          go_ret2
          exact parse_none HV.out (Below.refl _ _)
        · have g1 : (v == -9223372036854775808) = false := by simpa using e1
          have HE := Lib.hid (HEND.out (-v) (by rw [HDN.out, HDV.out]; omega))
          have hw2 : IntKind.i64.wrap (-v) = -v := IntWalk.i64_in _ (by omega)
          have HTX := Lib.hid (fun W => rtextv_any (-v) W (by omega) (by omega))
          have HT2 := Lib.hid (HTT.out (textT (-v)))
          unfold StrB at HTX
          obtain ⟨t, ht⟩ : ∃ t, textT (-v) = t := ⟨_, rfl⟩
          simp only [ht] at HTX HT2 HE
          clear ht
          by_cases e2 : t = l
          · have g2 := HT2.out.1 e2
            have g3 : ((ba t).toList != s.toList) = false := by simpa using g2
            by_cases e3 : -v < lo
            · have HV := Lib.hid (show o = none by rw [HE.out, if_neg]; rintro ⟨_, h2, _⟩; omega)
              have g4 : decide (-v < lo) = true := decide_eq_true e3
              clear e2
              go_wp2_with fail
              refine (HTX.out _).mono ?_
              rintro e w2 ⟨rfl, hb2⟩
              have HB2 := Lib.hid hb2
              clear hb2
              go_wp2
              go_ret2
              exact parse_none HV.out HB2.out
            · have g4 : decide (-v < lo) = false := decide_eq_false e3
              by_cases e4 : hi < -v
              · have HV := Lib.hid (show o = none by rw [HE.out, if_neg]; rintro ⟨_, _, h2⟩; omega)
                have g5 : decide (hi < -v) = true := decide_eq_true e4
                clear e2
                go_wp2_with fail
                refine (HTX.out _).mono ?_
                rintro e w2 ⟨rfl, hb2⟩
                have HB2 := Lib.hid hb2
                clear hb2
                go_wp2
                go_ret2
                exact parse_none HV.out HB2.out
              · have HV := Lib.hid (show o = some (-v) by rw [HE.out, if_pos ⟨e2, by omega, by omega⟩])
                have g5 : decide (hi < -v) = false := decide_eq_false e4
                clear e2
                go_wp2_with fail
                refine (HTX.out _).mono ?_
                rintro e w2 ⟨rfl, hb2⟩
                have HB2 := Lib.hid hb2
                clear hb2
                go_wp2
                go_ret2
                exact parse_some HV.out HB2.out
          · have HV := Lib.hid (show o = none by rw [HE.out, if_neg fun h => e2 h.1])
            have g2 := HT2.out.2 e2
            have g3 : ((ba t).toList != s.toList) = true := by simpa using g2
            clear e2
            go_wp2_with fail
            refine (HTX.out _).mono ?_
            rintro e w2 ⟨rfl, hb2⟩
            have HB2 := Lib.hid hb2
            clear hb2
            go_wp2
            go_ret2
            exact parse_none HV.out HB2.out
end Go.Proofs.YtomcdhmcjndioaaGreatDoor
end
section
namespace Go.Proofs.YtomcdhmcjndioaaGreatDoor
open Go.RowKit
set_option linter.unusedVariables false

theorem fold_pos : ∀ (r : List UInt8) (a : Nat), 1 ≤ a → 1 ≤ r.foldl (fun a c => a * 10 + (c.toNat - 48)) a
  | [], a, h => h
  | c :: r, a, h => fold_pos r _ (by show 1 ≤ a * 10 + (c.toNat - 48); omega)
theorem decP_neg {l : List UInt8} (hh : l.head? = some 45) (lo hi : Int) (hlo : 0 ≤ lo) : decP l lo hi = none := by
  cases l with
  | nil => cases hh
  | cons c d =>
    have hc : c = 45 := by simpa using hh
    subst hc
    unfold decP
    simp only [List.head?_cons, if_true, List.drop_succ_cons, List.drop_zero]
    split
    · rename_i h
      obtain ⟨h1, h2, h3⟩ := h
      cases d with
      | nil => exact absurd rfl h2
      | cons x r =>
        have hx : digitB x = true := by
          rw [List.all_eq_true] at h1
          exact h1 x (by simp)
        unfold digitB at hx
        have hx2 := of_decide_eq_true hx
        rw [UInt8.le_iff_toNat_le, UInt8.le_iff_toNat_le] at hx2
        have hne : x ≠ 48 := fun e => h3 ⟨by rw [e]; rfl, by simp⟩
        have hn2 : x.toNat ≠ 48 := fun e => hne (UInt8.toNat_inj.1 e)
        have e48 : (48 : UInt8).toNat = 48 := rfl
        have hp : 1 ≤ decV (x :: r) := fold_pos r _ (by show 1 ≤ 0 * 10 + (x.toNat - 48); omega)
        rw [if_neg]
        rintro ⟨h5, _⟩
        omega
    · rfl
set_option maxRecDepth 100000 in
set_option maxHeartbeats 4000000 in
theorem rparse_neg (l : List UInt8) (lo hi : Int) (w : World) (hl : l.length ≤ 1000000000) (hh : l.head? = some 45) (hhi : hi ≤ 9223372036854775807) (hhi0 : 0 ≤ hi) (hlo : 0 ≤ lo) (hlo9 : lo ≤ 9223372036854775807) :
    Calls Tryz.prog 118 #[.string (ba l), .int .i64 lo, .int .i64 hi] w (ParsePost w (decP l lo hi)) := by
  have HO := Lib.hid (decP_neg hh lo hi hlo)
  have HTT := Lib.hid (fun t => text_tests t l (ba l) rfl)
  have HT0 := Lib.hid (show textT 0 ≠ l from fun e => by
    rw [textT_digit (by omega) (by omega)] at e
    rw [← e] at hh
    simp at hh)
  have hget0 : ∃ h : 0 < (ba l).size, (((ba l)[0]'h).toNat : Int) = 45 := by
    cases l with
    | nil => cases hh
    | cons c d =>
      have hc : c = 45 := by simpa using hh
      subst hc
      exact ⟨by rw [ba_size]; simp, rfl⟩
  obtain ⟨o, ho⟩ : ∃ o, decP l lo hi = o := ⟨_, rfl⟩
  rw [ho] at HO ⊢
  clear ho hh
  obtain ⟨n, hn⟩ : ∃ n, l.length = n := ⟨_, rfl⟩
  have HL := Lib.hid hn
  obtain ⟨s, hs⟩ : ∃ s, ba l = s := ⟨_, rfl⟩
  have HS := Lib.hid hs
  have HZ := Lib.hid (show s.size = n by rw [← hs, ba_size, hn])
  have hsz : (s.size : Int) = n := by rw [HZ.out]
  rw [hs]
  rw [hn] at hl
  clear hs hn
  rw [HS.out] at HTT
  have hg : ∃ h : 0 < s.size, ((s[0]'h).toNat : Int) = 45 := by
    have h := HS.out
    subst h
    exact hget0
  clear hget0
  obtain ⟨hs0, hg0⟩ := hg
  have hn0 : (0 : Int) < (n : Int) := by have := HZ.out; omega
  have hn1 : (1 : Int) ≤ (n : Int) := by omega
  go_enter Tryz.func118, Tryz.ntmps118
  go_wp2
  obtain ⟨D, hD⟩ : ∃ D, s.extract 1 s.size = D := ⟨_, rfl⟩
  rw [hD]
  obtain ⟨m, hm⟩ : ∃ m, D.size = m := ⟨_, rfl⟩
  have hms : (D.size : Int) = m := by rw [hm]
  have HM := Lib.hid hm
  have hmb : m ≤ 1000000000 := by rw [← hm, ← hD, ByteArray.size_extract]; have := HZ.out; omega
  clear hD hm
  go_loop [10, 11, 12] (fun nn i c => ∃ (k : Nat) (v : Int) (y : Value), c = y ∧ nn = .int .i64 v ∧ k ≤ m ∧ i = .int .i64 (k : Int) ∧ Hid (v ≤ 0 ∧ -9223372036854775808 ≤ v)) (fun _ i _ => m - (intOf i).toNat)
  case atStart => exact ⟨0, 0, _, rfl, rfl, Nat.zero_le _, rfl, Lib.hid ⟨by omega, by omega⟩⟩
  case round =>
    obtain ⟨k, v, y0, rfl, rfl, hk, rfl, HR⟩ := hrel
    have hv0 : v ≤ 0 := HR.out.1
    have hv1 : -9223372036854775808 ≤ v := HR.out.2
    by_cases hlt : k < m
    · have hk2 : (k : Int) < (m : Int) := by omega
      have hk0 : (0 : Int) ≤ (k : Int) := by omega
      have hks : k < D.size := by rw [HM.out]; exact hlt
      obtain ⟨y, hy⟩ : ∃ y : Int, ((D[k]).toNat : Int) = y + 48 := ⟨((D[k]).toNat : Int) - 48, by omega⟩
      have hyb : -48 ≤ y ∧ y ≤ 207 := by have := (D[k]).toNat_lt; omega
      obtain ⟨hyb1, hyb2⟩ := hyb
      by_cases e1 : y < 0
      · have g1 : decide (y < 0) = true := decide_eq_true e1
        go_wp2
        go_ret2
        exact parse_none HO.out (Below.refl _ _)
      · have g1 : decide (y < 0) = false := decide_eq_false e1
        by_cases e2 : 9 < y
        · have g2 : decide (9 < y) = true := decide_eq_true e2
          go_wp2
          go_ret2
          exact parse_none HO.out (Below.refl _ _)
        · have g2 : decide (9 < y) = false := decide_eq_false e2
          have hq := min_div (y := y) (by omega) (by omega)
          obtain ⟨q, hqq⟩ : ∃ q, (-9223372036854775808 + y).tdiv 10 = q := ⟨_, rfl⟩
          rw [hqq] at hq
          have hq0 : -922337203685477580 ≤ q ∧ q ≤ -922337203685477579 := by omega
          have hw0 : IntKind.i64.wrap (-9223372036854775808 + y) = -9223372036854775808 + y := IntWalk.i64_in _ (by omega)
          have hw1 : IntKind.i64.wrap q = q := IntWalk.i64_in _ (by omega)
          by_cases e3 : v < q
          · have g3 : decide (v < q) = true := decide_eq_true e3
            clear hq
            go_wp2
            go_ret2
            exact parse_none HO.out (Below.refl _ _)
          · have g3 : decide (v < q) = false := decide_eq_false e3
            have HNX2 := Lib.hid (show 10 * v - y ≤ 0 ∧ -9223372036854775808 ≤ 10 * v - y by omega)
            have hw2 : IntKind.i64.wrap (10 * v) = 10 * v := IntWalk.i64_in _ (by omega)
            have hw3 : IntKind.i64.wrap (10 * v - y) = 10 * v - y := IntWalk.i64_in _ (by omega)
            clear hq
            go_wp2
            go_round
            case rel => exact ⟨k + 1, 10 * v - y, _, rfl, rfl, by omega, by go_num, HNX2⟩
            case measure => simp [intOf] <;> omega
    · obtain rfl : m = k := by omega
      have HTX := Lib.hid (fun W => rtextv_any v W (by omega) (by omega))
      have HT2 := Lib.hid (HTT.out (textT v))
      have HVZ := Lib.hid (show textT v = l → v < 0 from fun e => by
        rcases Int.lt_or_eq_of_le hv0 with h | h
        · exact h
        · rw [h] at e
          exact absurd e HT0.out)
      unfold StrB at HTX
      obtain ⟨t, ht⟩ : ∃ t, textT v = t := ⟨_, rfl⟩
      simp only [ht] at HTX HT2 HVZ
      clear ht
      by_cases e2 : t = l
      · have g2 := HT2.out.1 e2
        have g3 : ((ba t).toList != s.toList) = false := by simpa using g2
        have e3 := HVZ.out e2
        have g4 : decide (v < lo) = true := decide_eq_true (by omega)
        have e4 : v < lo := by omega
        clear e2
        go_wp2_with fail
        refine (HTX.out _).mono ?_
        rintro e w2 ⟨rfl, hb2⟩
        have HB2 := Lib.hid hb2
        clear hb2
        go_wp2
        go_ret2
        exact parse_none HO.out HB2.out
      · have g2 := HT2.out.2 e2
        have g3 : ((ba t).toList != s.toList) = true := by simpa using g2
        clear e2
        go_wp2_with fail
        refine (HTX.out _).mono ?_
        rintro e w2 ⟨rfl, hb2⟩
        have HB2 := Lib.hid hb2
        clear hb2
        go_wp2
        go_ret2
        exact parse_none HO.out HB2.out
theorem rparse0_any (l : List UInt8) (hi : Int) (w : World) (hl : l.length ≤ 1000000000) (hhi : hi ≤ 9223372036854775807) (hhi0 : 0 ≤ hi) :
    Calls Tryz.prog 118 #[.string (ba l), .int .i64 0, .int .i64 hi] w (ParsePost w (decP l 0 hi)) := by
  by_cases hh : l.head? = some 45
  · exact rparse_neg l 0 hi w hl hh hhi hhi0 (by omega) (by omega)
  · exact rparse_pos l hh 0 hi w hl (by omega) hhi
end Go.Proofs.YtomcdhmcjndioaaGreatDoor
end
section
namespace Go.Proofs.YtomcdhmcjndioaaGreatDoor
open Go.RowKit
set_option linter.unusedVariables false

theorem flagC_int {c : UInt8} {x : Int} (h : (c.toNat : Int) = x) : flagC c = ((decide (97 ≤ x) && decide (x ≤ 122)) || (decide (48 ≤ x) && decide (x ≤ 57)) || decide (x = 36) || decide (x = 92) || decide (x = 45) || decide (x = 95) || decide (x = 46)) := by
  unfold flagC
  have e : ∀ d : UInt8, (c == d) = decide (x = (d.toNat : Int)) := fun d => by
    rw [Bool.eq_iff_iff, beq_iff_eq, decide_eq_true_iff, ← h]
    exact ⟨fun e => by rw [e], fun e => UInt8.toNat_inj.1 (by omega)⟩
  have l1 : ∀ d : UInt8, decide (d ≤ c) = decide ((d.toNat : Int) ≤ x) := fun d => by
    rw [Bool.eq_iff_iff, decide_eq_true_iff, decide_eq_true_iff, UInt8.le_iff_toNat_le, ← h]
    omega
  have l2 : ∀ d : UInt8, decide (c ≤ d) = decide (x ≤ (d.toNat : Int)) := fun d => by
    rw [Bool.eq_iff_iff, decide_eq_true_iff, decide_eq_true_iff, UInt8.le_iff_toNat_le, ← h]
    omega
  rw [e, e, e, e, e, l1, l1, l2, l2]
  rfl
def FlRel (l : List UInt8) (k : Nat) : Prop := (l.take k).all flagC = true
theorem flRel_step {l : List UInt8} {k : Nat} (hk : k < l.length) (h : FlRel l k) (hc : flagC l[k] = true) : FlRel l (k + 1) := by
  unfold FlRel at h ⊢
  rw [List.take_succ_eq_append_getElem hk, List.all_append, h]
  simpa using hc
theorem flRel_bad {l : List UInt8} {k : Nat} (hk : k < l.length) (hc : flagC l[k] = false) : flagQ l = false := by
  unfold flagQ
  have : l.all flagC = false := by
    rw [List.all_eq_false]
    exact ⟨l[k], List.getElem_mem hk, by rw [hc]; decide⟩
  rw [this, Bool.and_false]
set_option maxRecDepth 100000 in
set_option maxHeartbeats 4000000 in
theorem rflag_any (l : List UInt8) (w : World) (hl : l.length ≤ 1000000000) :
    Calls Tryz.prog 117 #[.string (ba l)] w fun e w' => e = .returned (.bool (flagQ l)) ∧ w' = w := by
  have HQ := Lib.hid (show flagQ l = (decide (1 ≤ l.length) && decide (l.length ≤ 30) && l.all flagC) from rfl)
  obtain ⟨n, hn⟩ : ∃ n, l.length = n := ⟨_, rfl⟩
  have HL := Lib.hid hn
  obtain ⟨s, hs⟩ : ∃ s, ba l = s := ⟨_, rfl⟩
  have HS := Lib.hid hs
  have HZ := Lib.hid (show s.size = n by rw [← hs, ba_size, hn])
  have hsz : (s.size : Int) = n := by rw [HZ.out]
  rw [hs]
  rw [hn] at hl
  clear hs hn
  by_cases h0 : n < 1 ∨ 30 < n
  · have HR := Lib.hid (show flagQ l = false by
      rw [HQ.out, HL.out]
      rcases h0 with h | h
      · rw [decide_eq_false (by omega)]; rfl
      · rw [decide_eq_false (show ¬ n ≤ 30 by omega)]; simp)
    by_cases h1 : n < 1
    · have g1 : decide ((n : Int) < 1) = true := decide_eq_true (by omega)
      have g2 : (n : Int) < 1 := by omega
      clear h0
      go_enter Tryz.func117, Tryz.ntmps117
      go_wp2
      go_ret
      exact ⟨by rw [HR.out]; rfl, rfl⟩
    · have g2 : ¬ (n : Int) < 1 := by omega
      have g3 : (30 : Int) < (n : Int) := by omega
      have g1 : decide ((n : Int) < 1) = false := decide_eq_false g2
      have g4 : decide ((30 : Int) < (n : Int)) = true := decide_eq_true g3
      clear h0
      go_enter Tryz.func117, Tryz.ntmps117
      go_wp2
      go_ret
      exact ⟨by rw [HR.out]; rfl, rfl⟩
  · have HQ2 := Lib.hid (show flagQ l = l.all flagC by
      rw [HQ.out, HL.out, decide_eq_true (show 1 ≤ n by omega), decide_eq_true (show n ≤ 30 by omega)]
      rfl)
    have n0 : ¬ (n : Int) < 1 := by omega
    have n1 : ¬ (30 : Int) < (n : Int) := by omega
    have g1 : decide ((n : Int) < 1) = false := decide_eq_false n0
    have g2 : decide ((30 : Int) < (n : Int)) = false := decide_eq_false n1
    clear h0
    go_enter Tryz.func117, Tryz.ntmps117
    go_wp2
    go_loop [3, 4] (fun i c => ∃ (k : Nat) (y : Value), c = y ∧ k ≤ n ∧ i = .int .i64 (k : Int) ∧ Hid (FlRel l k)) (fun i _ => n - (intOf i).toNat)
    case atStart => exact ⟨0, _, rfl, Nat.zero_le _, rfl, Lib.hid rfl⟩
    case round =>
      obtain ⟨k, y0, rfl, hk, rfl, HR⟩ := hrel
      by_cases hlt : k < n
      · have hk2 : (k : Int) < (n : Int) := by omega
        have hk0 : (0 : Int) ≤ (k : Int) := by omega
        have hks : k < s.size := by rw [HZ.out]; omega
        have hkl : k < l.length := by rw [HL.out]; omega
        have hget : s[k] = l[k] := by
          have h := HS.out
          subst h
          rfl
        have HST := Lib.hid (flRel_step hkl HR.out)
        have HBD := Lib.hid (flRel_bad hkl)
        obtain ⟨c, hc⟩ : ∃ c, l[k] = c := ⟨_, rfl⟩
        rw [hc] at hget HST HBD
        obtain ⟨x, hx⟩ : ∃ x : Int, (c.toNat : Int) = x := ⟨_, rfl⟩
        have hgi : ((s[k]).toNat : Int) = x := by rw [hget]; exact hx
        have HX := Lib.hid hx
        have hx0 : 0 ≤ x := by omega
        have hx1 : x ≤ 255 := by have := c.toNat_lt; omega
        clear hc hkl hget hx
        have HF := Lib.hid (flagC_int HX.out)
        by_cases a1 : x < 97
        · have b1 : decide (x < 97) = true := decide_eq_true a1
          by_cases a2 : x < 48
          · have b2 : decide (x < 48) = true := decide_eq_true a2
            by_cases s36 : x = 36
            · have t36 : (x != 36) = false := by simpa using s36
              have HV := Lib.hid (show flagC c = true by rw [HF.out, s36]; rfl)
              clear HF s36
              go_wp2
              go_round
              case rel => exact ⟨k + 1, _, rfl, by omega, by go_num, HST.out HV.out⟩
              case measure => simp [intOf] <;> omega
            · have t36 : (x != 36) = true := by simpa using s36
              by_cases s92 : x = 92
              · have t92 : (x != 92) = false := by simpa using s92
                have HV := Lib.hid (show flagC c = true by rw [HF.out, s92]; rfl)
                clear HF s92 s36
                go_wp2
                go_round
                case rel => exact ⟨k + 1, _, rfl, by omega, by go_num, HST.out HV.out⟩
                case measure => simp [intOf] <;> omega
              · have t92 : (x != 92) = true := by simpa using s92
                by_cases s45 : x = 45
                · have t45 : (x != 45) = false := by simpa using s45
                  have HV := Lib.hid (show flagC c = true by rw [HF.out, s45]; rfl)
                  clear HF s45 s36 s92
                  go_wp2
                  go_round
                  case rel => exact ⟨k + 1, _, rfl, by omega, by go_num, HST.out HV.out⟩
                  case measure => simp [intOf] <;> omega
                · have t45 : (x != 45) = true := by simpa using s45
                  by_cases s95 : x = 95
                  · have t95 : (x != 95) = false := by simpa using s95
                    have HV := Lib.hid (show flagC c = true by rw [HF.out, s95]; rfl)
                    clear HF s95 s36 s92 s45
                    go_wp2
                    go_round
                    case rel => exact ⟨k + 1, _, rfl, by omega, by go_num, HST.out HV.out⟩
                    case measure => simp [intOf] <;> omega
                  · have t95 : (x != 95) = true := by simpa using s95
                    by_cases s46 : x = 46
                    · have t46 : (x != 46) = false := by simpa using s46
                      have HV := Lib.hid (show flagC c = true by rw [HF.out, s46]; rfl)
                      clear HF s46 s36 s92 s45 s95
                      go_wp2
                      go_round
                      case rel => exact ⟨k + 1, _, rfl, by omega, by go_num, HST.out HV.out⟩
                      case measure => simp [intOf] <;> omega
                    · have t46 : (x != 46) = true := by simpa using s46
                      have HV := Lib.hid (show flagC c = false by rw [HF.out]; simp; omega)
                      clear HF s36 s92 s45 s95 s46
                      go_wp2
                      go_ret
                      exact ⟨by rw [HBD.out HV.out]; rfl, rfl⟩
          · have b2 : decide (x < 48) = false := decide_eq_false a2
            by_cases a3 : 57 < x
            · have b3 : decide (57 < x) = true := decide_eq_true a3
              by_cases s36 : x = 36
              · have t36 : (x != 36) = false := by simpa using s36
                have HV := Lib.hid (show flagC c = true by rw [HF.out, s36]; rfl)
                clear HF s36
                go_wp2
                go_round
                case rel => exact ⟨k + 1, _, rfl, by omega, by go_num, HST.out HV.out⟩
                case measure => simp [intOf] <;> omega
              · have t36 : (x != 36) = true := by simpa using s36
                by_cases s92 : x = 92
                · have t92 : (x != 92) = false := by simpa using s92
                  have HV := Lib.hid (show flagC c = true by rw [HF.out, s92]; rfl)
                  clear HF s92 s36
                  go_wp2
                  go_round
                  case rel => exact ⟨k + 1, _, rfl, by omega, by go_num, HST.out HV.out⟩
                  case measure => simp [intOf] <;> omega
                · have t92 : (x != 92) = true := by simpa using s92
                  by_cases s45 : x = 45
                  · have t45 : (x != 45) = false := by simpa using s45
                    have HV := Lib.hid (show flagC c = true by rw [HF.out, s45]; rfl)
                    clear HF s45 s36 s92
                    go_wp2
                    go_round
                    case rel => exact ⟨k + 1, _, rfl, by omega, by go_num, HST.out HV.out⟩
                    case measure => simp [intOf] <;> omega
                  · have t45 : (x != 45) = true := by simpa using s45
                    by_cases s95 : x = 95
                    · have t95 : (x != 95) = false := by simpa using s95
                      have HV := Lib.hid (show flagC c = true by rw [HF.out, s95]; rfl)
                      clear HF s95 s36 s92 s45
                      go_wp2
                      go_round
                      case rel => exact ⟨k + 1, _, rfl, by omega, by go_num, HST.out HV.out⟩
                      case measure => simp [intOf] <;> omega
                    · have t95 : (x != 95) = true := by simpa using s95
                      by_cases s46 : x = 46
                      · have t46 : (x != 46) = false := by simpa using s46
                        have HV := Lib.hid (show flagC c = true by rw [HF.out, s46]; rfl)
                        clear HF s46 s36 s92 s45 s95
                        go_wp2
                        go_round
                        case rel => exact ⟨k + 1, _, rfl, by omega, by go_num, HST.out HV.out⟩
                        case measure => simp [intOf] <;> omega
                      · have t46 : (x != 46) = true := by simpa using s46
                        have HV := Lib.hid (show flagC c = false by rw [HF.out]; simp; omega)
                        clear HF s36 s92 s45 s95 s46
                        go_wp2
                        go_ret
                        exact ⟨by rw [HBD.out HV.out]; rfl, rfl⟩
            · have b3 : decide (57 < x) = false := decide_eq_false a3
              have HV := Lib.hid (show flagC c = true by rw [HF.out]; simp; omega)
              clear HF 
              go_wp2
              go_round
              case rel => exact ⟨k + 1, _, rfl, by omega, by go_num, HST.out HV.out⟩
              case measure => simp [intOf] <;> omega
        · have b1 : decide (x < 97) = false := decide_eq_false a1
          by_cases a2 : 122 < x
          · have b2 : decide (122 < x) = true := decide_eq_true a2
            have b4 : decide (x < 48) = false := decide_eq_false (by omega)
            have b3 : decide (57 < x) = true := decide_eq_true (by omega)
            have b5 : ¬ x < 48 := by omega
            have b6 : 57 < x := by omega
            by_cases s36 : x = 36
            · have t36 : (x != 36) = false := by simpa using s36
              have HV := Lib.hid (show flagC c = true by rw [HF.out, s36]; rfl)
              clear HF s36
              go_wp2
              go_round
              case rel => exact ⟨k + 1, _, rfl, by omega, by go_num, HST.out HV.out⟩
              case measure => simp [intOf] <;> omega
            · have t36 : (x != 36) = true := by simpa using s36
              by_cases s92 : x = 92
              · have t92 : (x != 92) = false := by simpa using s92
                have HV := Lib.hid (show flagC c = true by rw [HF.out, s92]; rfl)
                clear HF s92 s36
                go_wp2
                go_round
                case rel => exact ⟨k + 1, _, rfl, by omega, by go_num, HST.out HV.out⟩
                case measure => simp [intOf] <;> omega
              · have t92 : (x != 92) = true := by simpa using s92
                by_cases s45 : x = 45
                · have t45 : (x != 45) = false := by simpa using s45
                  have HV := Lib.hid (show flagC c = true by rw [HF.out, s45]; rfl)
                  clear HF s45 s36 s92
                  go_wp2
                  go_round
                  case rel => exact ⟨k + 1, _, rfl, by omega, by go_num, HST.out HV.out⟩
                  case measure => simp [intOf] <;> omega
                · have t45 : (x != 45) = true := by simpa using s45
                  by_cases s95 : x = 95
                  · have t95 : (x != 95) = false := by simpa using s95
                    have HV := Lib.hid (show flagC c = true by rw [HF.out, s95]; rfl)
                    clear HF s95 s36 s92 s45
                    go_wp2
                    go_round
                    case rel => exact ⟨k + 1, _, rfl, by omega, by go_num, HST.out HV.out⟩
                    case measure => simp [intOf] <;> omega
                  · have t95 : (x != 95) = true := by simpa using s95
                    by_cases s46 : x = 46
                    · have t46 : (x != 46) = false := by simpa using s46
                      have HV := Lib.hid (show flagC c = true by rw [HF.out, s46]; rfl)
                      clear HF s46 s36 s92 s45 s95
                      go_wp2
                      go_round
                      case rel => exact ⟨k + 1, _, rfl, by omega, by go_num, HST.out HV.out⟩
                      case measure => simp [intOf] <;> omega
                    · have t46 : (x != 46) = true := by simpa using s46
                      have HV := Lib.hid (show flagC c = false by rw [HF.out]; simp; omega)
                      clear HF s36 s92 s45 s95 s46
                      go_wp2
                      go_ret
                      exact ⟨by rw [HBD.out HV.out]; rfl, rfl⟩
          · have b2 : decide (122 < x) = false := decide_eq_false a2
            have HV := Lib.hid (show flagC c = true by rw [HF.out]; simp; omega)
            clear HF 
            go_wp2
            go_round
            case rel => exact ⟨k + 1, _, rfl, by omega, by go_num, HST.out HV.out⟩
            case measure => simp [intOf] <;> omega
      · obtain rfl : k = n := by omega
        have HV := Lib.hid (show flagQ l = true by
          rw [HQ2.out]
          have h := HR.out
          unfold FlRel at h
          rw [List.take_of_length_le (by rw [HL.out]; exact Nat.le_refl _)] at h
          exact h)
        go_wp2
        go_ret
        exact ⟨by rw [HV.out]; rfl, rfl⟩
end Go.Proofs.YtomcdhmcjndioaaGreatDoor
end
