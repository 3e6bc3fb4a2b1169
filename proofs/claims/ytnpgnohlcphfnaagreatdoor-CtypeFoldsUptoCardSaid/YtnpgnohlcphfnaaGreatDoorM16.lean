/- Reference 1: the contract of Text. Reference 12: the contracts of Line and Write. Layer 12: the contract of Parse. -/
import Derived.Test.YtnpgnohlcphfnaaGreatDoorM15
section
namespace Go.Proofs.YtnpgnohlcphfnaaGreatDoor
open Go.RowKit
set_option linter.unusedVariables false

theorem ofNat_val {x : Int} (h0 : 0 ≤ x) (h1 : x ≤ 255) : ((UInt8.ofNat x.toNat).toNat : Int) = x := by
  rw [UInt8.toNat_ofNat']
  omega
theorem below_a {w w9 : World} (h : Below w.drew.heap.size w.drew w9) (o : Obj) : Below w.heap.size w (w9.alloc o) := ((Below.refl _ _).drew.trans h).alloc h.size o
theorem below_b {w w9 : World} {o : Obj} (h : Below (w.alloc o).drew.heap.size (w.alloc o).drew w9) : Below w.heap.size w w9 := ((Below.refl _ _).alloc (Nat.le_refl _) o).drew.trans (h.mono (by simp))
theorem new_cell (W : World) (u : Value) (t : TypeId) : (W.alloc (.cells #[u] t)).cell? ⟨W.heap.size, 0, none⟩ = some u := by simp
theorem natT_len : ∀ (f n : Nat), n < 10 ^ f → (natT n).length ≤ f + 1
  | 0, n, h => by
    rw [natT_small (by omega)]
    simp
  | f + 1, n, h => by
    by_cases h2 : n < 10
    · rw [natT_small h2]; simp
    · rw [natT_big h2, List.length_append]
      have h3 : n / 10 < 10 ^ f := by rw [Nat.pow_succ] at h; omega
      have := natT_len f (n / 10) h3
      simp
      omega
theorem textT_len (v : Int) (h0 : -9223372036854775808 ≤ v) (h1 : v ≤ 9223372036854775807) : (textT v).length ≤ 30 := by
  unfold textT
  split
  · have := natT_len 20 (-v).toNat (by omega)
    simp only [List.length_cons]
    omega
  · have := natT_len 20 v.toNat (by omega)
    omega
theorem conv_one {W : World} {b : Nat} {x : Int} (h0 : 0 ≤ x) (h1 : x ≤ 255) (hc : W.cell? ⟨b, 0, none⟩ = some (.int .u8 x)) : (convert 59 9 (.slice (some ⟨b, 0, none⟩) 1 1)).run Tryz.prog W = .ok (.string (ba [UInt8.ofNat x.toNat])) W :=
  run_convert_bytes_back W 59 9 5 ⟨b, 0, none⟩ 1 [UInt8.ofNat x.toNat] Tryz.underlying59 Tryz.underlying5 Tryz.underlying9 fun j hj => by
    have h : j = 0 := by simp at hj; exact hj
    subst h
    have e : (Addr.add ⟨b, 0, none⟩ 0) = ⟨b, 0, none⟩ := rfl
    rw [e, hc]
    show some (Value.int .u8 x) = some (Value.int .u8 ((UInt8.ofNat x.toNat).toNat : Int))
    rw [ofNat_val h0 h1]
set_option maxRecDepth 100000 in
set_option maxHeartbeats 600000 in
theorem rtextn_any (n : Nat) : ∀ (v : Int) (w : World), (v.natAbs ≤ n) → -9223372036854775808 ≤ v → v ≤ 9223372036854775807 →
    Calls Tryz.prog 182 #[.int .i64 v] w (StrB w (textT v)) := by
  induction n using Nat.strongRecOn with
  | _ n ih =>
    intro v w hn h0 h1
    by_cases hneg : v < 0
    · by_cases hlow : -10 < v
      · have HT := Lib.hid (textT_low hneg hlow)
        have HU := Lib.hid (ofNat_val (x := 48 - v) (by omega) (by omega))
        have hcv := conv_one (W := w.alloc (.cells #[.int .u8 (48 - v)] 5)) (b := w.heap.size) (x := 48 - v) (by omega) (by omega) (by simp)
        obtain ⟨z, hz⟩ : ∃ z, UInt8.ofNat (48 - v).toNat = z := ⟨_, rfl⟩
        rw [hz] at hcv HT
        have hap := ba_append [45] [z]
        have hb0 : ba [45] = ⟨#[45]⟩ := rfl
        rw [hb0] at hap
        have hln : ¬ 9223372036854775807 < 1 + (ba [z]).size := by rw [ba_size]; simp
        clear ih hn hz hb0
        go_enter Tryz.func182, Tryz.ntmps182
        go_wp2
        go_ret
        exact str_fin (by rw [HT.out]) ((Below.refl _ _).alloc (Nat.le_refl _) _)
      · have HT := Lib.hid (textT_neg (v := v) (by omega))
        obtain ⟨k, hk⟩ : ∃ k : Nat, v = -(k : Int) := ⟨(-v).toNat, by omega⟩
        have hq : v.tdiv 10 = -((k / 10 : Nat) : Int) := by rw [hk, Int.neg_tdiv]; rfl
        have hr : v.tmod 10 = -((k % 10 : Nat) : Int) := by rw [hk, Int.neg_tmod]; rfl
        have hqb : -922337203685477580 ≤ v.tdiv 10 ∧ v.tdiv 10 < 0 := by rw [hq]; omega
        have hrb : -9 ≤ v.tmod 10 ∧ v.tmod 10 ≤ 0 := by rw [hr]; omega
        have hqn : (v.tdiv 10).natAbs < n := by rw [hq]; omega
        clear hk hq hr
        obtain ⟨q, hq⟩ : ∃ q, v.tdiv 10 = q := ⟨_, rfl⟩
        obtain ⟨r, hr⟩ : ∃ r, v.tmod 10 = r := ⟨_, rfl⟩
        rw [hq] at HT hqb hqn
        rw [hr] at HT hrb
        obtain ⟨hq0, hq1⟩ := hqb
        obtain ⟨hr0, hr1⟩ := hrb
        have HIH := Lib.hid (fun W => ih q.natAbs hqn q W (Nat.le_refl _) (by omega) (by omega))
        have hcv := conv_one (W := (w.alloc (.cells #[.int .u8 (48 - r)] 5)).drew) (b := w.heap.size) (x := 48 - r) (by omega) (by omega) (new_cell w.drew _ _)
        obtain ⟨z, hz⟩ : ∃ z, UInt8.ofNat (48 - r).toNat = z := ⟨_, rfl⟩
        have HZ := Lib.hid hz
        rw [hz] at hcv HT
        have HKX := Lib.hid (show ∀ W', Below ((w.alloc (.cells #[.int .u8 (48 - r)] 5)).drew).heap.size ((w.alloc (.cells #[.int .u8 (48 - r)] 5)).drew) W' → (convert 59 9 (.slice (some ⟨w.heap.size, 0, none⟩) 1 1)).run Tryz.prog W' = .ok (.string (ba [z])) W' from fun W' hW => by
          have hsz9 : w.heap.size < ((w.alloc (.cells #[.int .u8 (48 - r)] 5)).drew).heap.size := by simp
          have h9 := conv_one (W := W') (b := w.heap.size) (x := 48 - r) (by omega) (by omega) ((hW.cell (p := ⟨w.heap.size, 0, none⟩) hsz9).trans (new_cell w _ _))
          rw [hz] at h9
          exact h9)
        obtain ⟨t, ht⟩  : ∃ t, textT q = t := ⟨_, rfl⟩
        have htl : t.length ≤ 30 := by rw [← ht]; exact textT_len q (by omega) (by omega)
        rw [ht] at HT
        unfold StrB at HIH
        simp only [ht] at HIH
        have hap := ba_append t [z]
        have hln : ¬ 9223372036854775807 < (ba t).size + (ba [z]).size := by rw [ba_size, ba_size]; simp; omega
        have HTL := Lib.hid htl
        have hw1 : IntKind.i64.wrap q = q := IntWalk.i64_in _ (by omega)
        have hw2 : IntKind.i64.wrap (48 - r) = 48 - r := IntWalk.i64_in _ (by omega)
        have hw3 : IntKind.u8.wrap (48 - r) = 48 - r := by rw [← ofNat_val (x := 48 - r) (by omega) (by omega)]; exact wrap_u8 _
        clear  ih hn hqn hz ht htl
        go_enter Tryz.func182, Tryz.ntmps182
        go_wp2
        go_region_with
          (go_at_call 182; refine (HIH.out _).mono ?_; rintro e w9 ⟨rfl, hb9⟩; (
            have HB9 := Lib.hid hb9
            have hcw := conv_one (W := w9.alloc (.cells #[.int .u8 (48 - r)] 5)) (b := w9.heap.size) (x := 48 - r) (by omega) (by omega) (by simp)
            rw [HZ.out] at hcw
            (first
              | (have hcx := HKX.out _ hb9)
              | skip)
            clear hb9))
        all_goals
          go_wp2
          go_ret
          first
            | exact str_fin (by rw [HT.out]) (below_a HB9.out _)
            | exact str_fin (by rw [HT.out]) (below_b HB9.out)
    · by_cases hlow : v < 10
      · have HT := Lib.hid (textT_digit (v := v) (by omega) hlow)
        have hcv := conv_one (W := w.alloc (.cells #[.int .u8 (48 + v)] 5)) (b := w.heap.size) (x := 48 + v) (by omega) (by omega) (by simp)
        obtain ⟨z, hz⟩ : ∃ z, UInt8.ofNat (48 + v).toNat = z := ⟨_, rfl⟩
        rw [hz] at hcv HT
        clear ih hn hz
        go_enter Tryz.func182, Tryz.ntmps182
        go_wp2
        go_ret
        exact str_fin (by rw [HT.out]) ((Below.refl _ _).alloc (Nat.le_refl _) _)
      · have HT := Lib.hid (textT_pos (v := v) (by omega))
        obtain ⟨k, hk⟩ : ∃ k : Nat, v = (k : Int) := ⟨v.toNat, by omega⟩
        have hq : v.tdiv 10 = ((k / 10 : Nat) : Int) := by rw [hk]; rfl
        have hr : v.tmod 10 = ((k % 10 : Nat) : Int) := by rw [hk]; rfl
        have hqb : 0 < v.tdiv 10 ∧ v.tdiv 10 ≤ 922337203685477580 := by rw [hq]; omega
        have hrb : 0 ≤ v.tmod 10 ∧ v.tmod 10 ≤ 9 := by rw [hr]; omega
        have hqn : (v.tdiv 10).natAbs < n := by rw [hq]; omega
        clear hk hq hr
        obtain ⟨q, hq⟩ : ∃ q, v.tdiv 10 = q := ⟨_, rfl⟩
        obtain ⟨r, hr⟩ : ∃ r, v.tmod 10 = r := ⟨_, rfl⟩
        rw [hq] at HT hqb hqn
        rw [hr] at HT hrb
        obtain ⟨hq0, hq1⟩ := hqb
        obtain ⟨hr0, hr1⟩ := hrb
        have HIH := Lib.hid (fun W => ih q.natAbs hqn q W (Nat.le_refl _) (by omega) (by omega))
        have hcv := conv_one (W := (w.alloc (.cells #[.int .u8 (48 + r)] 5)).drew) (b := w.heap.size) (x := 48 + r) (by omega) (by omega) (new_cell w.drew _ _)
        obtain ⟨z, hz⟩ : ∃ z, UInt8.ofNat (48 + r).toNat = z := ⟨_, rfl⟩
        have HZ := Lib.hid hz
        rw [hz] at hcv HT
        have HKX := Lib.hid (show ∀ W', Below ((w.alloc (.cells #[.int .u8 (48 + r)] 5)).drew).heap.size ((w.alloc (.cells #[.int .u8 (48 + r)] 5)).drew) W' → (convert 59 9 (.slice (some ⟨w.heap.size, 0, none⟩) 1 1)).run Tryz.prog W' = .ok (.string (ba [z])) W' from fun W' hW => by
          have hsz9 : w.heap.size < ((w.alloc (.cells #[.int .u8 (48 + r)] 5)).drew).heap.size := by simp
          have h9 := conv_one (W := W') (b := w.heap.size) (x := 48 + r) (by omega) (by omega) ((hW.cell (p := ⟨w.heap.size, 0, none⟩) hsz9).trans (new_cell w _ _))
          rw [hz] at h9
          exact h9)
        obtain ⟨t, ht⟩  : ∃ t, textT q = t := ⟨_, rfl⟩
        have htl : t.length ≤ 30 := by rw [← ht]; exact textT_len q (by omega) (by omega)
        rw [ht] at HT
        unfold StrB at HIH
        simp only [ht] at HIH
        have hap := ba_append t [z]
        have hln : ¬ 9223372036854775807 < (ba t).size + (ba [z]).size := by rw [ba_size, ba_size]; simp; omega
        have HTL := Lib.hid htl
        have hw1 : IntKind.i64.wrap q = q := IntWalk.i64_in _ (by omega)
        have hw2 : IntKind.i64.wrap (48 + r) = 48 + r := IntWalk.i64_in _ (by omega)
        have hw3 : IntKind.u8.wrap (48 + r) = 48 + r := by rw [← ofNat_val (x := 48 + r) (by omega) (by omega)]; exact wrap_u8 _
        clear  ih hn hqn hz ht htl
        go_enter Tryz.func182, Tryz.ntmps182
        go_wp2
        go_region_with
          (go_at_call 182; refine (HIH.out _).mono ?_; rintro e w9 ⟨rfl, hb9⟩; (
            have HB9 := Lib.hid hb9
            have hcw := conv_one (W := w9.alloc (.cells #[.int .u8 (48 + r)] 5)) (b := w9.heap.size) (x := 48 + r) (by omega) (by omega) (by simp)
            rw [HZ.out] at hcw
            (first
              | (have hcx := HKX.out _ hb9)
              | skip)
            clear hb9))
        all_goals
          go_wp2
          go_ret
          first
            | exact str_fin (by rw [HT.out]) (below_a HB9.out _)
            | exact str_fin (by rw [HT.out]) (below_b HB9.out)
theorem rtextv_any (v : Int) (w : World) (h0 : -9223372036854775808 ≤ v) (h1 : v ≤ 9223372036854775807) : Calls Tryz.prog 182 #[.int .i64 v] w (StrB w (textT v)) := rtextn_any v.natAbs v w (Nat.le_refl _) h0 h1
end Go.Proofs.YtnpgnohlcphfnaaGreatDoor
end
section
namespace Go.Proofs.YtnpgnohlcphfnaaGreatDoor
open Go.RowKit
set_option linter.unusedVariables false

/-- The bytes that the reference lays for a value, one after the other. -/
def rawC (quoted : Bool) (c : UInt8) : List UInt8 := if quoted = true then (if c = 92 ∨ c = 34 then [92, c] else [c]) else encC c
def rawP (quoted : Bool) (l : List UInt8) : List UInt8 := l.flatMap (rawC quoted)
theorem rawP_snoc {q : Bool} {l : List UInt8} {k : Nat} (hk : k < l.length) : rawP q (l.take (k + 1)) = rawP q (l.take k) ++ rawC q l[k] := by
  unfold rawP
  rw [List.take_succ_eq_append_getElem hk, List.flatMap_append]
  congr 1
  exact List.append_nil _
theorem rawP_true (l : List UInt8) : rawP true l = escQ l := rfl
theorem rawP_false (l : List UInt8) : rawP false l = encU l := rfl
theorem rawC_len (q : Bool) (c : UInt8) : (rawC q c).length ≤ 3 := by
  unfold rawC
  split
  · split <;> simp
  · exact encC_len c
theorem rawP_len (q : Bool) : ∀ l : List UInt8, (rawP q l).length ≤ 3 * l.length
  | [] => Nat.le_refl _
  | c :: l => by
    have ih := rawP_len q l
    have h := rawC_len q c
    show (rawC q c ++ rawP q l).length ≤ 3 * (l.length + 1)
    rw [List.length_append]
    omega
theorem wpList_pushByte3 {ops : Array Oper} {rest : List Oper} {o : Oper} {a : Act} {W : World} {Q : Exit → Act → World → Prop} {B : Nat} {y z x : UInt8} {u t s' : Int} {v : Value} {l : List UInt8} (hown : OwnBytes W B v l) (hB : B ≤ W.heap.size)
    (hu : u = (y.toNat : Int)) (ht : t = (z.toNat : Int)) (hs' : s' = (x.toNat : Int)) (hlen : l.length < 1099511627776) (hgd : o.guard = none) (s r : Operand) (c : Nat)
    (ho : o.op = .call { callee := .builtin .append, args := #[s, r], argTypes := #[59, 59] })
    (hs : a.eval s = v) (hx : a.eval r = .slice (some ⟨W.heap.size, 0, none⟩) 3 c)
    (h : ∀ v' w', OwnBytes w' B v' (l ++ [y, z, x]) → W.grownBy w' v.ownBlock → wpList Tryz.prog ops Q rest (a.put o.dst v') w') :
    wpList Tryz.prog ops Q (o :: rest) a (W.alloc (.cells #[.int .u8 u, .int .u8 t, .int .u8 s'] 5)) := by
  obtain ⟨i0, hi, hz0, hz1, hz2⟩ := info_parts info_u8
  subst hu
  subst ht
  subst hs'
  have hl : (Lib.byteCells l).length = l.length := Lib.byteCells_length l
  refine wpList_append_own_at _ hgd s r 59 ho B 5 i0 _ 1 1 Tryz.underlying59 hi hz0 hz1 hz2 rfl (by omega) v l.length (Lib.byteCells l) hs (World.ownsRow.alloc hown _) ⟨W.heap.size, 0, none⟩ 3 c [.int .u8 y.toNat, .int .u8 z.toNat, .int .u8 x.toNat] hx rfl (World.news_of_block (MapKept.heap_alloc W _).1) ?_ (by simp only [maxLen]; omega) (by omega) (by simp; omega) ?_
  · intro u hu
    simp only [List.mem_cons, List.not_mem_nil, or_false] at hu
    rcases hu with rfl | rfl | rfl <;> rfl
  · intro v' w' h1 h2 _ h4
    refine h v' w' ?_ ?_
    · unfold OwnBytes
      rw [Lib.byteCells_append, List.length_append]
      exact h1
    · have h5 := World.grownBy_alloc W (.cells #[.int .u8 y.toNat, .int .u8 z.toNat, .int .u8 x.toNat] 5) v.ownBlock
      exact ⟨h2.os.trans h5.os, h2.tape.trans h5.tape, h2.output.trans h5.output, Nat.le_trans h5.size h2.size, fun k hk hne => (h2.block k (by simp; omega) hne).trans (h5.block k hk hne)⟩
/-- The state of the inner loop. -/
structure RawRel (w : World) (q : Bool) (l : List UInt8) (k : Nat) (v : Value) (wr : World) : Prop where
  own : OwnBytes wr w.heap.size v (rawP q (l.take k))
  bel : Below w.heap.size w wr
theorem RawRel.start (w : World) (q : Bool) (l : List UInt8) : RawRel w q l 0 (.slice none 0 0) w := ⟨OwnBytes.nil_ _ _, Below.refl _ _⟩
theorem fmt_cases (l : List UInt8) : fmtV l = if allB 33 plainBut l = true ∧ l ≠ [] then [61] ++ l else if allB 32 [] l = true then [61, 34] ++ rawP true l ++ [34] else [42, 61, 117, 116, 102, 45, 56, 39, 39] ++ rawP false l := by
  rw [fmtV_eq]
  by_cases h : plainV l
  · rw [if_pos h, if_pos ⟨h.2, h.1⟩]
    rfl
  · rw [if_neg h, if_neg (show ¬ (allB 33 plainBut l = true ∧ l ≠ []) from fun h2 => h ⟨h2.2, h2.1⟩)]
    rfl
def freeK (c : UInt8) : Bool := letterB c || [45, 46, 95, 126].contains c
theorem rawC_true {c : UInt8} (h : c = 34 ∨ c = 92) : rawC true c = [92, c] := by
  unfold rawC
  rw [if_pos rfl, if_pos h.symm]
theorem rawC_one {c : UInt8} (h : ¬ (c = 34 ∨ c = 92)) : rawC true c = [c] := by
  unfold rawC
  rw [if_pos rfl, if_neg fun e => h e.symm]
theorem rawC_free (c : UInt8) : rawC false c = if freeC c = true then [c] else [37, hexU (c.toNat / 16), hexU (c.toNat % 16)] :=
  u8_all (fun c => rawC false c = if freeC c = true then [c] else [37, hexU (c.toNat / 16), hexU (c.toNat % 16)]) (by decide +kernel) c
set_option maxRecDepth 100000 in
set_option maxHeartbeats 4000000 in
theorem rline_any (first : List UInt8) (ps : List (List UInt8 × List UInt8)) (A : Option Addr) (n c : Nat) (w : World) (hP : Pars w w.heap.size A n ps) (hv : ∀ p ∈ ps, p.2.length ≤ 100000000) (hn : n ≤ 1000000000) (hL : (lineP first ps).length ≤ 9007199254740992) :
    Calls Tryz.prog 21 #[.string (ba first), .slice A n c] w (StrB w (lineP first ps)) := by
  have HP := Lib.hid hP
  have HS := Lib.hid hv
  have HN := Lib.hid hP.len
  have HTK := Lib.hid (fun k => Nat.le_trans (lineP_take first ps k) hL)
  clear hP hv hL
  go_enter Tryz.func21, Tryz.ntmps21
  go_wp2
  go_loopw [5, 6, 7, 8, 9, 10, 11, 12, 13] (fun s i x7 x8 x9 x10 x11 x12 x13 wr => ∃ (k : Nat) (acc : List UInt8) (y7 y8 y9 y10 y11 y12 y13 : Value), x7 = y7 ∧ x8 = y8 ∧ x9 = y9 ∧ x10 = y10 ∧ x11 = y11 ∧ x12 = y12 ∧ x13 = y13 ∧ k ≤ n ∧ s = .string (ba acc) ∧ i = .int .i64 (k : Int) ∧ Hid (LiRel w first ps k acc wr)) (fun _ i _ _ _ _ _ _ _ _ => n - (intOf i).toNat)
  case atStart => exact ⟨0, first, _, _, _, _, _, _, _, rfl, rfl, rfl, rfl, rfl, rfl, rfl, Nat.zero_le _, rfl, rfl, Lib.hid ⟨by unfold lineP; simp, Below.refl _ _⟩⟩
  case round =>
    obtain ⟨k, acc, y7, y8, y9, y10, y11, y12, y13, rfl, rfl, rfl, rfl, rfl, rfl, rfl, hk, rfl, rfl, HR⟩ := hrel
    have hsz := HR.out.bel.size
    by_cases hlt : k < n
    · have hk2 : (k : Int) < n := by omega
      have hkl : k < ps.length := by rw [HN.out]; exact hlt
      obtain ⟨ad, rfl, hbl, c0, c1, -⟩ := (HP.out.below HR.out.bel).2 k hkl
      have hpl := HS.out _ (List.getElem_mem hkl)
      have hsn := lineP_snoc (first := first) hkl
      have htk := HTK.out (k + 1)
      have HBE := Lib.hid HR.out.bel
      have heq := HR.out.eq
      rw [← heq] at hsn
      obtain ⟨p, hp⟩ : ∃ p, ps[k] = p := ⟨_, rfl⟩
      rw [hp] at c0 c1 hpl hsn
      obtain ⟨p1, l⟩ := p
      have hl : l.length ≤ 100000000 := hpl
      have d0 : wr.cell? (ad.add (k * 2)) = some (.string (ba p1)) := c0
      have d1 : wr.cell? ⟨(ad.add (k * 2)).block, (ad.add (k * 2)).off + 1, none⟩ = some (.string (ba l)) := c1
      have HFC := Lib.hid (fmt_cases l)
      obtain ⟨f, hf⟩ : ∃ f, fmtV l = f := ⟨_, rfl⟩
      have hsn2 : lineP first (ps.take (k + 1)) = acc ++ [59, 32] ++ p1 ++ f := by rw [hsn, ← hf]; simp
      rw [hf] at HFC
      rw [hsn2] at htk
      have HSN := Lib.hid hsn2
      have hlen : acc.length + 2 + p1.length + f.length ≤ 9007199254740992 := by
        rw [List.length_append, List.length_append, List.length_append] at htk
        exact htk
      have HLEN := Lib.hid hlen
      have hap1 : ba acc ++ (⟨#[59, 32]⟩ : ByteArray) = ba (acc ++ [59, 32]) := ba_append acc [59, 32]
      have hap2 := ba_append (acc ++ [59, 32]) p1
      have hl1 : ¬ 9223372036854775807 < (ba acc).size + 2 := by rw [ba_size]; omega
      have hl2 : ¬ 9223372036854775807 < (ba (acc ++ [59, 32])).size + (ba p1).size := by rw [ba_size, ba_size, List.length_append]; show ¬ _ < _ + 2 + _; omega
      obtain ⟨q1, hq1⟩ : ∃ q, acc ++ [59, 32] = q := ⟨_, rfl⟩
      rw [hq1] at hap1 hap2 hl2 HSN
      obtain ⟨q2, hq2⟩ : ∃ q, q1 ++ p1 = q := ⟨_, rfl⟩
      have HQL := Lib.hid (show q2.length + f.length ≤ 9007199254740992 by rw [← hq2, ← hq1, List.length_append, List.length_append]; exact hlen)
      rw [hq2] at hap2 HSN
      clear hp hpl hkl hbl c0 c1 heq hf hsn hsn2 htk hq1 hq2 hlen HR
      have HA1 := Lib.hid (show ∀ W, Calls Tryz.prog 42 #[.string (ba l), .int .u8 33, .string ⟨#[40, 41, 60, 62, 64, 44, 59, 58, 92, 34, 47, 91, 93, 63, 61]⟩] W fun e w' => e = .returned (.bool (allB 33 plainBut l)) ∧ w' = W from fun W => rwithin_any l 33 plainBut W (by omega) (by decide))
      have HA2 := Lib.hid (show ∀ W, Calls Tryz.prog 42 #[.string (ba l), .int .u8 32, .string ⟨#[]⟩] W fun e w' => e = .returned (.bool (allB 32 [] l)) ∧ w' = W from fun W => rwithin_any l 32 [] W (by omega) (by decide))
      have HTE := Lib.hid (ba_toList l)
      have HRL := Lib.hid (fun q k => rawP_len q (l.take k))
      have HUQ := Lib.hid (fun q => rawP_len q l)
      have hnil : l = [] ∨ l ≠ [] := by
        cases l with
        | nil => exact .inl rfl
        | cons a r => exact .inr (by simp)
      obtain ⟨b1, hb1⟩ : ∃ b, allB 33 plainBut l = b := ⟨_, rfl⟩
      obtain ⟨b2, hb2⟩ : ∃ b, allB 32 [] l = b := ⟨_, rfl⟩
      simp only [hb1, hb2] at HFC HA1 HA2
      clear hb1 hb2
      obtain ⟨m, hnm⟩ : ∃ m, l.length = m := ⟨_, rfl⟩
      have HL := Lib.hid hnm
      obtain ⟨s, hs⟩ : ∃ s, ba l = s := ⟨_, rfl⟩
      have HS := Lib.hid hs
      have HZ := Lib.hid (show s.size = m by rw [← hs, ba_size, hnm])
      have hszm : (s.size : Int) = m := by rw [HZ.out]
      rw [hnm] at hl
      clear hs hnm
      simp only [HS.out] at HA1 HA2 HTE
      rw [HS.out] at d1
      have hwn : (s.toList != []) = true ∧ s.toList.isEmpty = false ∧ l ≠ [] ∨ (s.toList != []) = false ∧ s.toList.isEmpty = true ∧ l = [] := by
        rw [HTE.out]
        rcases hnil with h | h
        · exact .inr ⟨by rw [h]; rfl, by rw [h]; rfl, h⟩
        · refine .inl ⟨by simpa using h, ?_, h⟩
          cases l with
          | nil => exact absurd rfl h
          | cons a r => rfl
      clear hnil
      have hway : (b1 = true ∧ (s.toList != []) = true ∧ s.toList.isEmpty = false ∧ f = [61] ++ l) ∨ ((b1 = false ∨ b1 = true ∧ (s.toList != []) = false ∧ s.toList.isEmpty = true) ∧ (b2 = true ∧ f = [61, 34] ++ rawP true l ++ [34] ∨ b2 = false ∧ f = [42, 61, 117, 116, 102, 45, 56, 39, 39] ++ rawP false l)) := by
        have h := HFC.out
        cases b1
        · rw [if_neg (by simp)] at h
          refine .inr ⟨.inl rfl, ?_⟩
          cases b2
          · exact .inr ⟨rfl, h⟩
          · exact .inl ⟨rfl, h⟩
        · rcases hwn with ⟨h1, h2, h3⟩ | ⟨h1, h2, h3⟩
          · rw [if_pos ⟨rfl, h3⟩] at h
            exact .inl ⟨rfl, h1, h2, h⟩
          · rw [if_neg (fun e => e.2 h3)] at h
            refine .inr ⟨.inr ⟨rfl, h1, h2⟩, ?_⟩
            cases b2
            · exact .inr ⟨rfl, h⟩
            · exact .inl ⟨rfl, h⟩
      clear hwn
      rcases hway with ⟨rfl, g1, g2, hfe⟩ | ⟨hno, hq⟩
      · have hap3 : ba q2 ++ (⟨#[61]⟩ : ByteArray) = ba (q2 ++ [61]) := ba_append q2 [61]
        have hap4 : ba (q2 ++ [61]) ++ s = ba (q2 ++ [61] ++ l) := by have h := ba_append (q2 ++ [61]) l; rw [HS.out] at h; exact h
        have hfl : f.length = 1 + m := by rw [hfe, List.length_append, HL.out]; rfl
        have hl3 : ¬ 9223372036854775807 < (ba q2).size + 1 := by rw [ba_size]; have := HQL.out; omega
        have hl4 : ¬ 9223372036854775807 < (ba (q2 ++ [61])).size + s.size := by rw [ba_size, HZ.out, List.length_append]; have := HQL.out; show ¬ _ < _ + 1 + _; omega
        have HF := Lib.hid (show q2 ++ [61] ++ l = lineP first (ps.take (k + 1)) by rw [HSN.out, hfe, List.append_assoc])
        obtain ⟨q3, hq3⟩ : ∃ q, q2 ++ [61] = q := ⟨_, rfl⟩
        rw [hq3] at hap3 hap4 hl4 HF
        obtain ⟨q4, hq4⟩ : ∃ q, q3 ++ l = q := ⟨_, rfl⟩
        rw [hq4] at hap4 HF
        clear hfe hfl hq3 hq4
        go_wp2_with fail
        refine (HA1.out _).mono ?_
        rintro e w' ⟨rfl, hw⟩
        have hw2 := hw.symm
        subst hw2
        clear hw
        go_wp2_with fail
        refine (HA2.out _).mono ?_
        rintro e w' ⟨rfl, hw⟩
        have hw2 := hw.symm
        subst hw2
        clear hw
        go_wp2
        go_roundw
        case rel => exact ⟨k + 1, q4, _, _, _, _, _, _, _, rfl, rfl, rfl, rfl, rfl, rfl, rfl, by omega, rfl, by go_num, Lib.hid ⟨HF.out, HBE.out⟩⟩
        case measure => simp [intOf] <;> omega
      · rcases hq with ⟨rfl, hfe⟩ | ⟨rfl, hfe⟩
        · have HFE := Lib.hid hfe
          clear hfe
          rcases hno with rfl | ⟨rfl, g1, g2⟩
          all_goals
            have HST := Lib.hid (RawRel.start wr true l)
            go_wp2_with fail
            refine (HA1.out _).mono ?_
            rintro e w' ⟨rfl, hw⟩
            have hw2 := hw.symm
            subst hw2
            clear hw
            go_wp2_with fail
            refine (HA2.out _).mono ?_
            rintro e w' ⟨rfl, hw⟩
            have hw2 := hw.symm
            subst hw2
            clear hw
            go_wp2
            obtain ⟨v0, rfl⟩ : ∃ v0, v0 = wr := ⟨_, rfl⟩
            go_loopw [10, 11, 12, 13] (fun v i cc bb wr => ∃ (j : Nat) (y z : Value), cc = y ∧ bb = z ∧ j ≤ m ∧ i = .int .i64 (j : Int) ∧ Hid (RawRel v0 true l j v wr)) (fun _ i _ _ _ => m - (intOf i).toNat)
            case atStart => exact ⟨0, _, _, rfl, rfl, Nat.zero_le _, rfl, HST⟩
            case round =>
              obtain ⟨j, y, z, rfl, rfl, hj, rfl, HRW⟩ := hrel
              have hB := HRW.out.bel.size
              by_cases hjt : j < m
              · have hk2 : (j : Int) < (m : Int) := by omega
                have hk0 : (0 : Int) ≤ (j : Int) := by omega
                have hks : j < s.size := by rw [HZ.out]; omega
                have hkl : j < l.length := by rw [HL.out]; omega
                have hget : s[j] = l[j] := by
                  have h := HS.out
                  subst h
                  rfl
                have HSW := Lib.hid (rawP_snoc (q := true) hkl)
                have HAL := Lib.hid (show (rawP true (l.take j)).length < 1099511627776 by have := HRL.out true j; rw [List.length_take] at this; omega)
                obtain ⟨c, hc⟩ : ∃ c, l[j] = c := ⟨_, rfl⟩
                rw [hc] at hget HSW
                obtain ⟨x, hx⟩ : ∃ x : Int, (c.toNat : Int) = x := ⟨_, rfl⟩
                have hgi : ((s[j]).toNat : Int) = x := by rw [hget]; exact hx
                have HX := Lib.hid hx
                have hx0 : 0 ≤ x := by omega
                have hx1 : x ≤ 255 := by have := c.toNat_lt; omega
                clear hc hkl hget hx
                have HHA := Lib.hid (show ∀ W, Calls Tryz.prog 43 #[.string ⟨#[45, 46, 95, 126]⟩, .int .u8 x] W fun e w' => e = .returned (.bool ([45, 46, 95, 126].contains c)) ∧ w' = W from fun W => by have h := rhas_any [45, 46, 95, 126] c W (by decide); rw [HX.out] at h; exact h)
                have HOWN := Lib.hid HRW.out.own
                have HBJ := Lib.hid HRW.out.bel
                clear HRW
                go_wp2_with fail
                refine (HHA.out _).mono ?_
                rintro e w' ⟨rfl, hw⟩
                have hw2 := hw.symm
                subst hw2
                clear hw
                by_cases e1 : c = 34 ∨ c = 92
                · have HC := Lib.hid (rawC_true e1)
                  have hx12 : (x == 34) = true ∧ x = 34 ∨ (x == 34) = false ∧ (x == 92) = true ∧ x = 92 := by
                    rcases e1 with e | e
                    · have hx9 : x = 34 := by rw [← HX.out, e]; rfl
                      exact .inl ⟨by simp [hx9], hx9⟩
                    · have hx9 : x = 92 := by rw [← HX.out, e]; rfl
                      exact .inr ⟨by simp [hx9], by simp [hx9], hx9⟩
                  clear e1
                  rcases hx12 with ⟨g5, hx5⟩ | ⟨g5, g6, hx5⟩
                  all_goals
                    subst hx5
                    go_wp2_with (at_builtin; go_must (refine wpList_pushByte2 (y := 92) (z := c) HOWN.out hB rfl HX.out.symm HAL.out rfl (.tmp 67) (.tmp 69) 2 rfl rfl rfl ?_); intro v6 w6 r1 r2; (have HN6 := Lib.hid (show RawRel v0 true l (j + 1) v6 w6 from ⟨by rw [HSW.out, HC.out]; exact r1, HBJ.out.grown r2 hB fun q e => (World.ownsRow.lt HOWN.out q e).1⟩); clear r1 r2))
                    go_roundw
                    case rel => exact ⟨j + 1, _, _, rfl, rfl, by omega, by go_num, HN6⟩
                    case measure => simp [intOf] <;> omega
                · have HC := Lib.hid (rawC_one e1)
                  have g5 : (x == 34) = false := by simpa using fun e : x = 34 => e1 (.inl (UInt8.toNat_inj.1 (by have := HX.out; show c.toNat = 34; omega)))
                  have g6 : (x == 92) = false := by simpa using fun e : x = 92 => e1 (.inr (UInt8.toNat_inj.1 (by have := HX.out; show c.toNat = 92; omega)))
                  clear e1
                  go_wp2_with (at_builtin; go_must (refine wpList_pushByte (y := c) HOWN.out hB HX.out.symm HAL.out rfl (.tmp 79) (.tmp 81) 1 rfl rfl rfl ?_); intro v6 w6 r1 r2 r3; (have HN6 := Lib.hid (show RawRel v0 true l (j + 1) v6 w6 from ⟨by rw [HSW.out, HC.out]; exact r1, HBJ.out.grown r2 hB fun q e => (World.ownsRow.lt HOWN.out q e).1⟩); clear r1 r2 r3))
                  go_roundw
                  case rel => exact ⟨j + 1, _, _, rfl, rfl, by omega, by go_num, HN6⟩
                  case measure => simp [intOf] <;> omega
              · obtain rfl : m = j := by omega
                have hconv : (convert 59 9 u10).run Tryz.prog wr = .ok (.string (ba (rawP true l))) wr := by
                  have h := HRW.out.own.str
                  rw [List.take_of_length_le (by rw [HL.out]; exact Nat.le_refl _)] at h
                  exact h
                have HBJ := Lib.hid (HBE.out.trans (HRW.out.bel.mono HBE.out.size))
                have hap3 : ba q2 ++ (⟨#[61, 34]⟩ : ByteArray) = ba (q2 ++ [61, 34]) := ba_append q2 [61, 34]
                have hap4 := ba_append (q2 ++ [61, 34]) (rawP true l)
                have hap5 : ba (q2 ++ [61, 34] ++ rawP true l) ++ (⟨#[34]⟩ : ByteArray) = ba (q2 ++ [61, 34] ++ rawP true l ++ [34]) := ba_append _ [34]
                have hrl := HUQ.out true
                rw [HL.out] at hrl
                have hl3 : ¬ 9223372036854775807 < (ba q2).size + 2 := by rw [ba_size]; have := HQL.out; omega
                have hl4 : ¬ 9223372036854775807 < (ba (q2 ++ [61, 34])).size + (ba (rawP true l)).size := by rw [ba_size, ba_size, List.length_append]; have := HQL.out; show ¬ _ < _ + 2 + _; omega
                have hl5 : ¬ 9223372036854775807 < (ba (q2 ++ [61, 34] ++ rawP true l)).size + 1 := by rw [ba_size, List.length_append, List.length_append]; have := HQL.out; show ¬ _ < _ + 2 + _ + 1; omega
                have HF := Lib.hid (show q2 ++ [61, 34] ++ rawP true l ++ [34] = lineP first (ps.take (k + 1)) by rw [HSN.out, HFE.out]; simp)
                obtain ⟨t, ht⟩ : ∃ t, rawP true l = t := ⟨_, rfl⟩
                rw [ht] at hconv hap4 hap5 hl4 hl5 HF
                obtain ⟨q3, hq3⟩ : ∃ q, q2 ++ [61, 34] = q := ⟨_, rfl⟩
                rw [hq3] at hap3 hap4 hap5 hl4 hl5 HF
                obtain ⟨q4, hq4⟩ : ∃ q, q3 ++ t = q := ⟨_, rfl⟩
                rw [hq4] at hap4 hap5 hl5 HF
                obtain ⟨q9, hq9⟩ : ∃ q, q4 ++ [34] = q := ⟨_, rfl⟩
                rw [hq9] at hap5 HF
                clear ht hrl hq3 hq4 hq9
                clear HRW
                go_wp2
                go_roundw
                case rel => exact ⟨k + 1, q9, _, _, _, _, _, _, _, rfl, rfl, rfl, rfl, rfl, rfl, rfl, by omega, rfl, by go_num, Lib.hid ⟨HF.out, HBJ.out⟩⟩
                case measure => simp [intOf] <;> omega
        · have HFE := Lib.hid hfe
          clear hfe
          rcases hno with rfl | ⟨rfl, g1, g2⟩
          all_goals
            have HST := Lib.hid (RawRel.start wr false l)
            go_wp2_with fail
            refine (HA1.out _).mono ?_
            rintro e w' ⟨rfl, hw⟩
            have hw2 := hw.symm
            subst hw2
            clear hw
            go_wp2_with fail
            refine (HA2.out _).mono ?_
            rintro e w' ⟨rfl, hw⟩
            have hw2 := hw.symm
            subst hw2
            clear hw
            go_wp2
            obtain ⟨v0, rfl⟩ : ∃ v0, v0 = wr := ⟨_, rfl⟩
            go_loopw [10, 11, 12, 13] (fun v i cc bb wr => ∃ (j : Nat) (y z : Value), cc = y ∧ bb = z ∧ j ≤ m ∧ i = .int .i64 (j : Int) ∧ Hid (RawRel v0 false l j v wr)) (fun _ i _ _ _ => m - (intOf i).toNat)
            case atStart => exact ⟨0, _, _, rfl, rfl, Nat.zero_le _, rfl, HST⟩
            case round =>
              obtain ⟨j, y, z, rfl, rfl, hj, rfl, HRW⟩ := hrel
              have hB := HRW.out.bel.size
              by_cases hjt : j < m
              · have hk2 : (j : Int) < (m : Int) := by omega
                have hk0 : (0 : Int) ≤ (j : Int) := by omega
                have hks : j < s.size := by rw [HZ.out]; omega
                have hkl : j < l.length := by rw [HL.out]; omega
                have hget : s[j] = l[j] := by
                  have h := HS.out
                  subst h
                  rfl
                have HSW := Lib.hid (rawP_snoc (q := false) hkl)
                have HAL := Lib.hid (show (rawP false (l.take j)).length < 1099511627776 by have := HRL.out false j; rw [List.length_take] at this; omega)
                obtain ⟨c, hc⟩ : ∃ c, l[j] = c := ⟨_, rfl⟩
                rw [hc] at hget HSW
                obtain ⟨x, hx⟩ : ∃ x : Int, (c.toNat : Int) = x := ⟨_, rfl⟩
                have hgi : ((s[j]).toNat : Int) = x := by rw [hget]; exact hx
                have HX := Lib.hid hx
                have hx0 : 0 ≤ x := by omega
                have hx1 : x ≤ 255 := by have := c.toNat_lt; omega
                clear hc hkl hget hx
                have HHA := Lib.hid (show ∀ W, Calls Tryz.prog 43 #[.string ⟨#[45, 46, 95, 126]⟩, .int .u8 x] W fun e w' => e = .returned (.bool ([45, 46, 95, 126].contains c)) ∧ w' = W from fun W => by have h := rhas_any [45, 46, 95, 126] c W (by decide); rw [HX.out] at h; exact h)
                have HOWN := Lib.hid HRW.out.own
                have HBJ := Lib.hid HRW.out.bel
                clear HRW
                have HRF := Lib.hid (rawC_free c)
                have HFD := Lib.hid (show freeC c = (letterB c || [45, 46, 95, 126].contains c) from rfl)
                have HLE := Lib.hid (show ∀ W, Calls Tryz.prog 44 #[.int .u8 x] W fun e w' => e = .returned (.bool (letterB c)) ∧ w' = W from fun W => by have h := rletter_any c W; rw [HX.out] at h; exact h)
                have HD1 := Lib.hid (fun W => rdigitU_any (c.toNat / 16) W (by have := c.toNat_lt; omega))
                have HD2 := Lib.hid (fun W => rdigitU_any (c.toNat % 16) W (by omega))
                have hdq : ((c.toNat / 16 : Nat) : Int) = x / 16 ∧ ((c.toNat % 16 : Nat) : Int) = x % 16 := by have := HX.out; omega
                have hq0 : 0 ≤ x / 16 ∧ x / 16 ≤ 15 ∧ 0 ≤ x % 16 ∧ x % 16 ≤ 15 := by omega
                have htd : x.tdiv 16 = x / 16 := Int.tdiv_eq_ediv_of_nonneg hx0
                have htm : x.tmod 16 = x % 16 := Int.tmod_eq_emod_of_nonneg hx0
                simp only [hdq.1] at HD1
                simp only [hdq.2] at HD2
                obtain ⟨xa, hxa⟩ : ∃ a, x / 16 = a := ⟨_, rfl⟩
                obtain ⟨xb, hxb⟩ : ∃ a, x % 16 = a := ⟨_, rfl⟩
                rw [hxa] at htd hq0
                rw [hxb] at htm hq0
                simp only [hxa] at HD1
                simp only [hxb] at HD2
                obtain ⟨hqa, hqb, hqc, hqd⟩ := hq0
                have hwa : IntKind.u8.wrap xa = xa := by rw [← ofNat_val (x := xa) (by omega) (by omega)]; exact wrap_u8 _
                have hwb : IntKind.u8.wrap xb = xb := by rw [← ofNat_val (x := xb) (by omega) (by omega)]; exact wrap_u8 _
                obtain ⟨b5, hb5⟩ : ∃ b, letterB c = b := ⟨_, rfl⟩
                obtain ⟨b6, hb6⟩ : ∃ b, [45, 46, 95, 126].contains c = b := ⟨_, rfl⟩
                simp only [hb5] at HLE HFD
                simp only [hb6] at HHA HFD
                clear hb5 hb6 hdq
                cases b5
                · cases b6
                  · have HC := Lib.hid (show rawC false c = [37, hexU (c.toNat / 16), hexU (c.toNat % 16)] by rw [HRF.out, HFD.out]; rfl)
                    go_wp2_with fail
                    refine (HHA.out _).mono ?_
                    rintro e w' ⟨rfl, hw⟩
                    have hw2 := hw.symm
                    subst hw2
                    clear hw
                    go_wp2_with fail
                    refine (HLE.out _).mono ?_
                    rintro e w' ⟨rfl, hw⟩
                    have hw2 := hw.symm
                    subst hw2
                    clear hw
                    go_wp2_with fail
                    refine (HD1.out _).mono ?_
                    rintro e w' ⟨rfl, hw⟩
                    have hw2 := hw.symm
                    subst hw2
                    clear hw
                    go_wp2_with fail
                    refine (HD2.out _).mono ?_
                    rintro e w' ⟨rfl, hw⟩
                    have hw2 := hw.symm
                    subst hw2
                    clear hw
                    go_wp2_with (at_builtin; go_must (refine wpList_pushByte3 (y := 37) (z := hexU (c.toNat / 16)) (x := hexU (c.toNat % 16)) HOWN.out hB rfl rfl rfl HAL.out rfl (.tmp 83) (.tmp 90) 3 rfl rfl rfl ?_); intro v6 w6 r1 r2; (have HN6 := Lib.hid (show RawRel v0 false l (j + 1) v6 w6 from ⟨by rw [HSW.out, HC.out]; exact r1, HBJ.out.grown r2 hB fun q e => (World.ownsRow.lt HOWN.out q e).1⟩); clear r1 r2))
                    go_roundw
                    case rel => exact ⟨j + 1, _, _, rfl, rfl, by omega, by go_num, HN6⟩
                    case measure => simp [intOf] <;> omega
                  · have HC := Lib.hid (show rawC false c = [c] by rw [HRF.out, HFD.out]; rfl)
                    go_wp2_with fail
                    refine (HHA.out _).mono ?_
                    rintro e w' ⟨rfl, hw⟩
                    have hw2 := hw.symm
                    subst hw2
                    clear hw
                    go_wp2_with fail
                    refine (HLE.out _).mono ?_
                    rintro e w' ⟨rfl, hw⟩
                    have hw2 := hw.symm
                    subst hw2
                    clear hw
                    go_wp2_with (at_builtin; go_must (refine wpList_pushByte (y := c) HOWN.out hB HX.out.symm HAL.out rfl (.tmp 79) (.tmp 81) 1 rfl rfl rfl ?_); intro v6 w6 r1 r2 r3; (have HN6 := Lib.hid (show RawRel v0 false l (j + 1) v6 w6 from ⟨by rw [HSW.out, HC.out]; exact r1, HBJ.out.grown r2 hB fun q e => (World.ownsRow.lt HOWN.out q e).1⟩); clear r1 r2 r3))
                    go_roundw
                    case rel => exact ⟨j + 1, _, _, rfl, rfl, by omega, by go_num, HN6⟩
                    case measure => simp [intOf] <;> omega
                · have HC := Lib.hid (show rawC false c = [c] by rw [HRF.out, HFD.out]; rfl)
                  cases b6
                  all_goals
                    go_wp2_with fail
                    refine (HHA.out _).mono ?_
                    rintro e w' ⟨rfl, hw⟩
                    have hw2 := hw.symm
                    subst hw2
                    clear hw
                    go_wp2_with fail
                    refine (HLE.out _).mono ?_
                    rintro e w' ⟨rfl, hw⟩
                    have hw2 := hw.symm
                    subst hw2
                    clear hw
                    go_wp2_with (at_builtin; go_must (refine wpList_pushByte (y := c) HOWN.out hB HX.out.symm HAL.out rfl (.tmp 79) (.tmp 81) 1 rfl rfl rfl ?_); intro v6 w6 r1 r2 r3; (have HN6 := Lib.hid (show RawRel v0 false l (j + 1) v6 w6 from ⟨by rw [HSW.out, HC.out]; exact r1, HBJ.out.grown r2 hB fun q e => (World.ownsRow.lt HOWN.out q e).1⟩); clear r1 r2 r3))
                    go_roundw
                    case rel => exact ⟨j + 1, _, _, rfl, rfl, by omega, by go_num, HN6⟩
                    case measure => simp [intOf] <;> omega
              · obtain rfl : m = j := by omega
                have hconv : (convert 59 9 u10).run Tryz.prog wr = .ok (.string (ba (rawP false l))) wr := by
                  have h := HRW.out.own.str
                  rw [List.take_of_length_le (by rw [HL.out]; exact Nat.le_refl _)] at h
                  exact h
                have HBJ := Lib.hid (HBE.out.trans (HRW.out.bel.mono HBE.out.size))
                have hap3 : ba q2 ++ (⟨#[42, 61, 117, 116, 102, 45, 56, 39, 39]⟩ : ByteArray) = ba (q2 ++ [42, 61, 117, 116, 102, 45, 56, 39, 39]) := ba_append q2 [42, 61, 117, 116, 102, 45, 56, 39, 39]
                have hap4 := ba_append (q2 ++ [42, 61, 117, 116, 102, 45, 56, 39, 39]) (rawP false l)
                have hrl := HUQ.out false
                rw [HL.out] at hrl
                have hl3 : ¬ 9223372036854775807 < (ba q2).size + 9 := by rw [ba_size]; have := HQL.out; omega
                have hl4 : ¬ 9223372036854775807 < (ba (q2 ++ [42, 61, 117, 116, 102, 45, 56, 39, 39])).size + (ba (rawP false l)).size := by rw [ba_size, ba_size, List.length_append]; have := HQL.out; show ¬ _ < _ + 9 + _; omega
                have HF := Lib.hid (show q2 ++ [42, 61, 117, 116, 102, 45, 56, 39, 39] ++ rawP false l = lineP first (ps.take (k + 1)) by rw [HSN.out, HFE.out]; simp)
                obtain ⟨t, ht⟩ : ∃ t, rawP false l = t := ⟨_, rfl⟩
                rw [ht] at hconv hap4 hl4 HF
                obtain ⟨q3, hq3⟩ : ∃ q, q2 ++ [42, 61, 117, 116, 102, 45, 56, 39, 39] = q := ⟨_, rfl⟩
                rw [hq3] at hap3 hap4 hl4 HF
                obtain ⟨q9, hq9⟩ : ∃ q, q3 ++ t = q := ⟨_, rfl⟩
                rw [hq9] at hap4 HF
                clear ht hrl hq3 hq9
                clear HRW
                go_wp2
                go_roundw
                case rel => exact ⟨k + 1, q9, _, _, _, _, _, _, _, rfl, rfl, rfl, rfl, rfl, rfl, rfl, by omega, rfl, by go_num, Lib.hid ⟨HF.out, HBJ.out⟩⟩
                case measure => simp [intOf] <;> omega
    · obtain rfl : k = n := by omega
      have HF := Lib.hid (show acc = lineP first ps by
        have h := HR.out.eq
        rw [List.take_of_length_le (by rw [HN.out]; exact Nat.le_refl _)] at h
        exact h)
      have HBE := Lib.hid HR.out.bel
      clear HR
      go_wp2
      go_ret
      exact str_fin (congrArg ba HF.out) HBE.out
set_option maxRecDepth 100000 in
set_option maxHeartbeats 1000000 in
theorem rwrite_any (kind sub : List UInt8) (ps : List (List UInt8 × List UInt8)) (A : Option Addr) (n c : Nat) (w : World) (hP : Pars w w.heap.size A n ps) (hv : ∀ p ∈ ps, p.2.length ≤ 100000000) (hn : n ≤ 1000000000) (hL : (lineP (kind ++ [47] ++ sub) ps).length ≤ 9007199254740992) :
    Calls Tryz.prog 19 #[.agg #[.string (ba kind), .string (ba sub), .slice A n c]] w (StrB w (lineP (kind ++ [47] ++ sub) ps)) := by
  have hB := (Below.refl w.heap.size w).alloc (Nat.le_refl _) (.cells #[.string (ba kind), .string (ba sub), .slice A n c] 26)
  have HB := Lib.hid hB
  have HLI := Lib.hid (rline_any (kind ++ [47] ++ sub) ps A n c _ ((hP.below hB).more hB.size) hv hn hL)
  have hlen : (kind ++ [47] ++ sub).length ≤ 9007199254740992 := by
    refine Nat.le_trans ?_ hL
    unfold lineP
    exact Nat.le_trans (Nat.le_add_right _ _) (Nat.le_of_eq List.length_append.symm)
  rw [List.length_append, List.length_append] at hlen
  have hlen2 : kind.length + 1 + sub.length ≤ 9007199254740992 := hlen
  have hap1 : ba kind ++ (⟨#[47]⟩ : ByteArray) = ba (kind ++ [47]) := ba_append kind [47]
  have hap2 := ba_append (kind ++ [47]) sub
  have hl1 : ¬ 9223372036854775807 < (ba kind).size + 1 := by rw [ba_size]; omega
  have hl2 : ¬ 9223372036854775807 < (ba (kind ++ [47])).size + (ba sub).size := by rw [ba_size, ba_size, List.length_append]; show ¬ _ < _ + 1 + _; omega
  obtain ⟨q1, hq1⟩ : ∃ q, kind ++ [47] = q := ⟨_, rfl⟩
  rw [hq1] at hap1 hap2 hl2 HLI ⊢
  obtain ⟨q2, hq2⟩ : ∃ q, q1 ++ sub = q := ⟨_, rfl⟩
  rw [hq2] at hap2 HLI ⊢
  clear hB hP hv hL hlen hlen2 hq1 hq2
  go_enter Tryz.func19, Tryz.ntmps19
  go_wp2_with fail
  refine HLI.out.mono ?_
  rintro e w2 ⟨rfl, hb2⟩
  have HB2 := Lib.hid (HB.out.trans (hb2.mono HB.out.size))
  clear hb2
  go_wp2
  go_ret
  exact str_fin rfl HB2.out
end Go.Proofs.YtnpgnohlcphfnaaGreatDoor
end
section
namespace Go.Proofs.YtnpgnohlcphfnaaGreatDoor
open Go.RowKit
set_option linter.unusedVariables false

def TypPost (w : World) (q : Typ × Bool) (e : Ending) (w' : World) : Prop := ∃ v, e = .returned (.tuple #[.agg #[.string (ba q.1.kind), .string (ba q.1.sub), v], .bool q.2]) ∧ OwnPars w' w.heap.size v q.1.params ∧ Below w.heap.size w w'
def plainT : Typ × Bool := (⟨[116, 101, 120, 116], [112, 108, 97, 105, 110], []⟩, false)
theorem parseT_eq (l : List UInt8) {r : List Tok} {rs : List (List Tok)} (h : tokRows l = r :: rs) : parseT l =
    if (cutV 47 (joinP r)).2.2 = true ∧ isWord (cutV 47 (joinP r)).1 = true ∧ isWord (cutV 47 (joinP r)).2.1 = true then (⟨smallP (cutV 47 (joinP r)).1, smallP (cutV 47 (joinP r)).2.1, paramsP rs⟩, true) else plainT := by
  unfold parseT cutV
  rw [h]
  simp only [List.headD_cons, List.drop_one, List.tail_cons]
  cases cutP 47 (joinP r) with
  | none => simp [plainT]
  | some q =>
    show (if isWord q.1 = true ∧ isWord q.2 = true then _ else _) = _
    by_cases h2 : isWord q.1 = true ∧ isWord q.2 = true
    · rw [if_pos h2, if_pos ⟨rfl, h2⟩]
    · rw [if_neg h2, if_neg fun h3 => h2 h3.2]
      rfl
theorem cells_at {W : World} {b : Nat} {cs : Array Value} {t : TypeId} (h : W.heap[b]? = some (.cells cs t)) (i : Nat) {u : Value} (hu : cs[i]? = some u) : W.cell? ⟨b, i, none⟩ = some u := by
  unfold World.cell?
  simp [h, hu]
theorem cells_free {W : World} {b : Nat} {cs : Array Value} {t : TypeId} (h : W.heap[b]? = some (.cells cs t)) (i : Nat) : W.frozen? ⟨b, i, none⟩ = false := by
  simp [World.frozen?, h]
theorem own_set3 {W : World} {B C k : Nat} {v : Value} {ps : List (List UInt8 × List UInt8)} (h : OwnPars W B v ps) (h2 : OwnPars W C v ps) (hk : k < C) (a b c : Value) : OwnPars (((W.setCell ⟨k, 0, none⟩ a).setCell ⟨k, 1, none⟩ b).setCell ⟨k, 2, none⟩ c) B v ps := h.block fun q e => by
  have hq : q ≠ k := by have := (h2.row.lt q e).1; omega
  rw [heap_setCell_other _ ⟨k, 2, none⟩ q _ hq, heap_setCell_other _ ⟨k, 1, none⟩ q _ hq, heap_setCell_other _ ⟨k, 0, none⟩ q _ hq]
theorem typ_fin {w w' : World} {q : Typ × Bool} {f g : List UInt8} {ps : List (List UInt8 × List UInt8)} {v : Value} {s t : ByteArray} {b : Bool} (h : q = (⟨f, g, ps⟩, b)) (hs : s = ba f) (ht : t = ba g) (ho : OwnPars w' w.heap.size v ps) (hb : Below w.heap.size w w') : TypPost w q (.returned (.tuple #[.agg #[.string s, .string t, v], .bool b])) w' := by
  subst h; subst hs; subst ht
  exact ⟨v, rfl, ho, hb⟩
theorem typ_plain {w w' : World} {q : Typ × Bool} (h : q = plainT) (ho : OwnPars w' w.heap.size (.slice none 0 0) []) (hb : Below w.heap.size w w') : TypPost w q (.returned (.tuple #[.agg #[.string ⟨#[116, 101, 120, 116]⟩, .string ⟨#[112, 108, 97, 105, 110]⟩, .slice none 0 0], .bool false])) w' := typ_fin h rfl rfl ho hb
set_option maxRecDepth 100000 in
set_option maxHeartbeats 1000000 in
theorem parse_any (l : List UInt8) (w : World) (hl : l.length ≤ 10000000) (hT : Tabs w) :
    Calls Tryz.prog 10 #[.string (ba l)] w (TypPost w (parseT l)) := by
  have HT := Lib.hid hT
  have HOK := Lib.hid (tokRows_ok l)
  obtain ⟨r, rs, hrs⟩ := rows_first l
  have HPT := Lib.hid (parseT_eq l hrs)
  have HRA := Lib.hid (fun W => rows_any l W (by omega))
  rw [hrs] at HOK
  simp only [hrs] at HRA
  unfold RowsPost at HRA
  have hrl := HOK.out.1 r (List.mem_cons_self ..)
  have hnl := HOK.out.2
  obtain ⟨⟨x, y, b⟩, hcv⟩ : ∃ q, cutV 47 (joinP r) = q := ⟨_, rfl⟩
  have hcl := cutV_len 47 (joinP r)
  rw [hcv] at HPT hcl
  have hxl : x.length ≤ 10000000 := by have h1 : x.length ≤ (joinP r).length := hcl.1; omega
  have hyl : y.length ≤ 10000000 := by have h1 : y.length ≤ (joinP r).length := hcl.2; omega
  have HCV := Lib.hid hcv
  have hB0 : Below w.heap.size w (w.alloc (.cells #[.string ⟨#[]⟩, .string ⟨#[]⟩, .slice none 0 0] 26)) := (Below.refl _ _).alloc (Nat.le_refl _) _
  have HB0 := Lib.hid hB0
  clear hT hrs hcl hcv hB0
  go_enter Tryz.func10, Tryz.ntmps10
  go_wp2_with fail
  refine (HRA.out _).mono ?_
  rintro e w1 ⟨v1, xs, rfl, hra, hb1⟩
  have hz1 : w.heap.size + 1 ≤ w1.heap.size := by have := hb1.size; simp at this; exact this
  have HBX1 := Lib.hid (show w1.heap[w.heap.size]? = some (.cells #[.string ⟨#[]⟩, .string ⟨#[]⟩, .slice none 0 0] 26) from (hb1.block w.heap.size (by simp)).trans (MapKept.heap_alloc w _).1)
  have HB1 := Lib.hid (HB0.out.trans (hb1.mono (by simp)))
  obtain ⟨A1, c1, rfl, hc1, hc2, hin⟩ := hra.rows
  have HIN := Lib.hid hin
  obtain ⟨ad, A2, c2, rfl, hbl, hcell, hc3, hc4, htk⟩ := hin.first
  have HTK := Lib.hid htk
  clear hra hb1 hin htk hc3 hc4
  have hl1 : (r :: rs).length = rs.length + 1 := rfl
  rw [hl1] at hc1 HIN hnl ⊢
  have HCUT := Lib.hid HIN.out.tail
  obtain ⟨m, hm⟩ : ∃ m, rs.length = m := ⟨_, rfl⟩
  rw [hm] at HCUT HIN hc1 hnl
  rw [hm]
  have HNL := Lib.hid hnl
  clear hl1 hm
  go_wp2_with fail
  refine (tjoin_any r A2 r.length c2 w1 HTK.out (by omega) (by omega)).mono ?_
  rintro e w2 ⟨rfl, hb2⟩
  have HB2 := Lib.hid hb2
  clear hb2
  go_wp2_with fail
  refine (cut_any 47 (joinP r) w2 (by omega) (HT.out.below (HB1.out.trans (HB2.out.mono HB1.out.size)))).mono ?_
  unfold CutPost
  rw [HCV.out]
  rintro e w3 ⟨rfl, nn, hw3⟩
  have hb3 : Below w1.heap.size w1 w3 := by rw [hw3]; exact below_drewN HB2.out nn
  have HB3 := Lib.hid hb3
  have HBX3 := Lib.hid ((hb3.block w.heap.size (by omega)).trans HBX1.out)
  have hz3 : w1.heap.size ≤ w3.heap.size := hb3.size
  clear hw3 hb3
  have d0 := cells_at HBX3.out 0 (u := .string ⟨#[]⟩) rfl
  have d1 := cells_at HBX3.out 1 (u := .string ⟨#[]⟩) rfl
  have d2 := cells_at HBX3.out 2 (u := .slice none 0 0) rfl
  have e0 := cells_free HBX3.out 0
  have e1 := cells_free HBX3.out 1
  have e2 := cells_free HBX3.out 2
  have HB13 := Lib.hid (show Below w.heap.size w w3 from HB1.out.trans (HB3.out.mono HB1.out.size))
  cases b with
  | false =>
    have HF := Lib.hid (show parseT l = plainT by rw [HPT.out, if_neg (by rintro ⟨h1, h2, h3⟩; cases h1)])
    go_wp2
    refine bodyPost_ret (v := .tuple #[.agg #[.string ⟨#[116, 101, 120, 116]⟩, .string ⟨#[112, 108, 97, 105, 110]⟩, .slice none 0 0], .bool false]) (by simp [results, Tryz.results10, go_sem, d0, d1, d2]) rfl ?_
    exact typ_plain HF.out (OwnPars.nil_ _ _) (((HB13.out.setCell (Nat.le_refl _) _).setCell (Nat.le_refl _) _).setCell (Nat.le_refl _) _)
  | true =>
    rcases Bool.eq_false_or_eq_true (isWord x) with hx | hx
    · rcases Bool.eq_false_or_eq_true (isWord y) with hy | hy
      · have HF := Lib.hid (show parseT l = (⟨smallP x, smallP y, paramsP rs⟩, true) by rw [HPT.out, if_pos ⟨rfl, hx, hy⟩])
        go_wp2_with fail
        refine (word_any x w3 (by omega)).mono ?_
        rintro e w4 ⟨he4, hw4⟩
        rw [hx] at he4
        subst he4
        have hw5 := hw4.symm
        subst hw5
        clear hw4
        go_wp2_with fail
        refine (word_any y w3 (by omega)).mono ?_
        rintro e w4 ⟨he4, hw4⟩
        rw [hy] at he4
        subst he4
        have hw5 := hw4.symm
        subst hw5
        clear hw4
        have HLI : Hid (∀ W, Below w3.heap.size w3 W → ∀ A9 n9 c9, (Value.slice A9 n9 c9 = .slice (some ⟨ad.block, ad.off + 1, none⟩) m (c1 - 1) ∨ (c1 = 1 ∧ Value.slice A9 n9 c9 = .slice (some ad) m 0)) → Calls Tryz.prog 34 #[.slice A9 n9 c9] W (ListPost W (paramsP rs))) := Lib.hid fun W hW A9 n9 c9 h9 => by
          have hb := HB3.out.trans (hW.mono HB3.out.size)
          have hin := (HCUT.out.below hb).more hb.size
          have hT2 := HT.out.below (HB13.out.trans (hW.mono HB13.out.size))
          have hj : ∀ r ∈ rs, (joinP r).length ≤ 10000000 ∧ r.length ≤ 1000000000 := fun r hr => by have := HOK.out.1 r (List.mem_cons_of_mem _ hr); omega
          rcases h9 with h9 | ⟨hc, h9⟩
          · injection h9 with q1 q2 q3
            subst q1; subst q2; subst q3
            exact list_any rs _ _ _ W hin (by have := HNL.out; omega) hj hT2
          · injection h9 with q1 q2 q3
            subst q1; subst q2; subst q3
            rcases hin.one (ad := ad) hc1 with ⟨_, h⟩ | ⟨h, _⟩
            · exact list_any rs _ _ _ W h (by have := HNL.out; omega) hj hT2
            · exact absurd hc h
        have HW := Lib.hid (show Below w3.heap.size w3 w3.drew from (Below.refl _ _).drew)
        have hxl9 : x.length ≤ 1000000000 := by omega
        have hyl9 : y.length ≤ 1000000000 := by omega
        have HFB := Lib.hid (show ∀ W, Below w3.heap.size w3 W → W.heap[w.heap.size]? = some (.cells #[.string ⟨#[]⟩, .string ⟨#[]⟩, .slice none 0 0] 26) from fun W hW => (hW.block w.heap.size (by omega)).trans HBX3.out)
        by_cases hcc : c1 = 1
        · subst hcc
          have hm0 : m = 0 := by omega
          subst hm0
          have HLJ := Lib.hid (fun W hW => HLI.out W hW _ _ _ (.inr ⟨rfl, rfl⟩))
          clear hc1 hc2
          go_wp2
          go_region_with
            (first
              | (go_at_call 33; refine (csmall_any _ _ ?_).mono ?_; (first | exact hxl9 | exact hyl9); rintro e w9 ⟨rfl, hb9⟩; (
                  have HW2 := Lib.hid (HW.out.trans (hb9.mono HW.out.size))
                  (first | (have HO2 := Lib.hid (HO.out.below hb9); clear HO; have HO := HO2; clear HO2) | skip)
                  clear HW hb9
                  have HW := HW2
                  clear HW2
                  have p0 := cells_at (HFB.out _ HW.out) 0 (u := .string ⟨#[]⟩) rfl
                  have p1 := cells_at (HFB.out _ HW.out) 1 (u := .string ⟨#[]⟩) rfl
                  have p2 := cells_at (HFB.out _ HW.out) 2 (u := .slice none 0 0) rfl
                  have q0 := cells_free (HFB.out _ HW.out) 0
                  have q1 := cells_free (HFB.out _ HW.out) 1
                  have q2 := cells_free (HFB.out _ HW.out) 2))
              | (go_at_call 34; refine (HLJ.out _ HW.out).mono ?_; rintro e w9 ⟨v9, rfl, ho9, hb9⟩; (
                  obtain ⟨A9, c9, rfl, -, -, -⟩ := ho9.reads
                  have HW2 := Lib.hid (HW.out.trans (hb9.mono HW.out.size))
                  have HO := Lib.hid (ho9.more HW.out.size)
                  clear HW hb9 ho9
                  have HW := HW2
                  clear HW2
                  have p0 := cells_at (HFB.out _ HW.out) 0 (u := .string ⟨#[]⟩) rfl
                  have p1 := cells_at (HFB.out _ HW.out) 1 (u := .string ⟨#[]⟩) rfl
                  have p2 := cells_at (HFB.out _ HW.out) 2 (u := .slice none 0 0) rfl
                  have q0 := cells_free (HFB.out _ HW.out) 0
                  have q1 := cells_free (HFB.out _ HW.out) 1
                  have q2 := cells_free (HFB.out _ HW.out) 2)))
          all_goals
            go_wp2
            refine bodyPost_ret (v := .tuple #[.agg #[.string (ba (smallP x)), .string (ba (smallP y)), .slice A9 (paramsP rs).length c9], .bool true]) (by simp [results, Tryz.results10, go_sem, p0, p1, p2]) rfl ?_
            exact typ_fin HF.out rfl rfl (own_set3 (HO.out.more (by omega)) HO.out (by omega) _ _ _) ((((HB13.out.trans (HW.out.mono HB13.out.size)).setCell (Nat.le_refl _) _).setCell (Nat.le_refl _) _).setCell (Nat.le_refl _) _)
        · have HLJ := Lib.hid (fun W hW => HLI.out W hW _ _ _ (.inl rfl))
          go_wp2
          go_region_with
            (first
              | (go_at_call 33; refine (csmall_any _ _ ?_).mono ?_; (first | exact hxl9 | exact hyl9); rintro e w9 ⟨rfl, hb9⟩; (
                  have HW2 := Lib.hid (HW.out.trans (hb9.mono HW.out.size))
                  (first | (have HO2 := Lib.hid (HO.out.below hb9); clear HO; have HO := HO2; clear HO2) | skip)
                  clear HW hb9
                  have HW := HW2
                  clear HW2
                  have p0 := cells_at (HFB.out _ HW.out) 0 (u := .string ⟨#[]⟩) rfl
                  have p1 := cells_at (HFB.out _ HW.out) 1 (u := .string ⟨#[]⟩) rfl
                  have p2 := cells_at (HFB.out _ HW.out) 2 (u := .slice none 0 0) rfl
                  have q0 := cells_free (HFB.out _ HW.out) 0
                  have q1 := cells_free (HFB.out _ HW.out) 1
                  have q2 := cells_free (HFB.out _ HW.out) 2))
              | (go_at_call 34; refine (HLJ.out _ HW.out).mono ?_; rintro e w9 ⟨v9, rfl, ho9, hb9⟩; (
                  obtain ⟨A9, c9, rfl, -, -, -⟩ := ho9.reads
                  have HW2 := Lib.hid (HW.out.trans (hb9.mono HW.out.size))
                  have HO := Lib.hid (ho9.more HW.out.size)
                  clear HW hb9 ho9
                  have HW := HW2
                  clear HW2
                  have p0 := cells_at (HFB.out _ HW.out) 0 (u := .string ⟨#[]⟩) rfl
                  have p1 := cells_at (HFB.out _ HW.out) 1 (u := .string ⟨#[]⟩) rfl
                  have p2 := cells_at (HFB.out _ HW.out) 2 (u := .slice none 0 0) rfl
                  have q0 := cells_free (HFB.out _ HW.out) 0
                  have q1 := cells_free (HFB.out _ HW.out) 1
                  have q2 := cells_free (HFB.out _ HW.out) 2)))
          all_goals
            go_wp2
            refine bodyPost_ret (v := .tuple #[.agg #[.string (ba (smallP x)), .string (ba (smallP y)), .slice A9 (paramsP rs).length c9], .bool true]) (by simp [results, Tryz.results10, go_sem, p0, p1, p2]) rfl ?_
            exact typ_fin HF.out rfl rfl (own_set3 (HO.out.more (by omega)) HO.out (by omega) _ _ _) ((((HB13.out.trans (HW.out.mono HB13.out.size)).setCell (Nat.le_refl _) _).setCell (Nat.le_refl _) _).setCell (Nat.le_refl _) _)
      · have HF := Lib.hid (show parseT l = plainT by rw [HPT.out, if_neg (by rintro ⟨h1, h2, h3⟩; rw [hy] at h3; cases h3)])
        go_wp2_with fail
        refine (word_any x w3 (by omega)).mono ?_
        rintro e w4 ⟨he4, hw4⟩
        rw [hx] at he4
        subst he4
        have hw5 := hw4.symm
        subst hw5
        clear hw4
        go_wp2_with fail
        refine (word_any y w3 (by omega)).mono ?_
        rintro e w4 ⟨he4, hw4⟩
        rw [hy] at he4
        subst he4
        have hw5 := hw4.symm
        subst hw5
        clear hw4
        go_wp2
        refine bodyPost_ret (v := .tuple #[.agg #[.string ⟨#[116, 101, 120, 116]⟩, .string ⟨#[112, 108, 97, 105, 110]⟩, .slice none 0 0], .bool false]) (by simp [results, Tryz.results10, go_sem, d0, d1, d2]) rfl ?_
        exact typ_plain HF.out (OwnPars.nil_ _ _) (((HB13.out.setCell (Nat.le_refl _) _).setCell (Nat.le_refl _) _).setCell (Nat.le_refl _) _)
    · have HF := Lib.hid (show parseT l = plainT by rw [HPT.out, if_neg (by rintro ⟨h1, h2, h3⟩; rw [hx] at h2; cases h2)])
      go_wp2_with fail
      refine (word_any x w3 (by omega)).mono ?_
      rintro e w4 ⟨he4, hw4⟩
      rw [hx] at he4
      subst he4
      have hw5 := hw4.symm
      subst hw5
      clear hw4
      go_wp2
      refine bodyPost_ret (v := .tuple #[.agg #[.string ⟨#[116, 101, 120, 116]⟩, .string ⟨#[112, 108, 97, 105, 110]⟩, .slice none 0 0], .bool false]) (by simp [results, Tryz.results10, go_sem, d0, d1, d2]) rfl ?_
      exact typ_plain HF.out (OwnPars.nil_ _ _) (((HB13.out.setCell (Nat.le_refl _) _).setCell (Nat.le_refl _) _).setCell (Nat.le_refl _) _)
end Go.Proofs.YtnpgnohlcphfnaaGreatDoor
end
