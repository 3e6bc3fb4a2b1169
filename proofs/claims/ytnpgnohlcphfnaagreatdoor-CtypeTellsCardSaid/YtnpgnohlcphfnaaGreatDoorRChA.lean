/- Reference 4: the contracts of sign, laid, small and kind. -/
import Derived.Test.YtnpgnohlcphfnaaGreatDoorM07
import Derived.Test.YtnpgnohlcphfnaaGreatDoorM03
import Derived.Test.YtnpgnohlcphfnaaGreatDoorRuneR
import Derived.Test.YtnpgnohlcphfnaaGreatDoorM16
namespace Go.Proofs.YtnpgnohlcphfnaaGreatDoor
open Go.RowKit
set_option linter.unusedVariables false

theorem rsign_any (n : Int) (w : World) : Calls Tryz.prog 235 #[.int .i64 n] w fun e w' => e = .returned (.bool (signR n)) ∧ w' = w := by
  have HF := Lib.hid (show signR n = (decide (0 ≤ n) && decide (n ≤ 1114111) && (decide (n < 55296) || decide (57343 < n))) by
    unfold signR
    rw [Bool.eq_iff_iff]
    simp only [Bool.or_eq_true, Bool.and_eq_true, decide_eq_true_iff, and_assoc])
  go_enter Tryz.func235, Tryz.ntmps235
  go_wp2
  all_goals
    go_ret
    refine ⟨?_, rfl⟩
    rw [HF.out]
    show Ending.returned (Value.bool _) = Ending.returned (Value.bool _)
    congr 2
    rw [Bool.eq_iff_iff]
    simp only [Bool.or_eq_true, Bool.and_eq_true, decide_eq_true_iff]
    first | omega | (simp; omega)
theorem runeCells_eq {n : Int} {z : List Int} (h : Lib.encodeRuneZ n = z) : Lib.runeCells n = z.map (Value.int .u8) := by
  unfold Lib.runeCells
  rw [h]
/-- The world behind laid: the bytes of a code point lie in a block of their own. -/
noncomputable def laidW (w : World) (n : Int) : World := w.alloc (.cells (Lib.runeCells n).toArray 5)
def laidV (w : World) (n : Int) : Value := .slice (some ⟨w.heap.size, 0, none⟩) (Lib.encodeRune n).length (Lib.encodeRune n).length
theorem laid_fin {w w' : World} {n : Int} {z : List Int} {cs : Array Value} {k : Nat} (hz : Lib.encodeRuneZ n = z) (hc : cs = (z.map (Value.int .u8)).toArray) (hk : k = z.length) (hw : w' = w.alloc (.cells cs 5)) :
    Ending.returned (.slice (some ⟨w.heap.size, 0, none⟩) k k) = .returned (laidV w n) ∧ w' = laidW w n := by
  unfold laidV laidW
  rw [← Lib.runeCells_length, runeCells_eq hz, List.length_map, hk]
  exact ⟨rfl, by rw [hw, hc]⟩
set_option maxRecDepth 100000 in
set_option maxHeartbeats 4000000 in
theorem rlaid_any (n : Int) (w : World) (hs : signR n = true) : Calls Tryz.prog 184 #[.int .i64 n] w fun e w' => e = .returned (laidV w n) ∧ w' = laidW w n := by
  unfold signR at hs
  rw [decide_eq_true_iff] at hs
  obtain ⟨hn0, hn1, hn2⟩ := hs
  by_cases e1 : n < 128
  · have HZ := Lib.hid (Lib.encodeRuneZ_one hn0 (show n ≤ 127 by omega))
    have hw1 : IntKind.u8.wrap n = n := by rw [← ofNat_val (x := n) hn0 (by omega)]; exact wrap_u8 _
    clear hn2
    go_enter Tryz.func184, Tryz.ntmps184
    go_wp2
    go_ret
    exact laid_fin HZ.out rfl rfl rfl
  by_cases e2 : n < 2048
  · have HZ := Lib.hid (Lib.encodeRuneZ_two (show 128 ≤ n by omega) (show n ≤ 2047 by omega))
    have ht1 : n.tdiv 64 = n / 64 := Int.tdiv_eq_ediv_of_nonneg hn0
    have ht2 : n.tmod 64 = n % 64 := Int.tmod_eq_emod_of_nonneg hn0
    have ha : 2 ≤ n / 64 ∧ n / 64 ≤ 31 := by omega
    have hb : 0 ≤ n % 64 ∧ n % 64 ≤ 63 := by omega
    obtain ⟨a, hae⟩ : ∃ a, n / 64 = a := ⟨_, rfl⟩
    obtain ⟨b, hbe⟩ : ∃ b, n % 64 = b := ⟨_, rfl⟩
    rw [hae] at ht1 ha HZ
    rw [hbe] at ht2 hb HZ
    obtain ⟨ha0, ha1⟩ := ha
    obtain ⟨hb0, hb1⟩ := hb
    have hw1 : IntKind.u8.wrap (192 + a) = 192 + a := by rw [← ofNat_val (x := 192 + a) (by omega) (by omega)]; exact wrap_u8 _
    have hw2 : IntKind.u8.wrap (128 + b) = 128 + b := by rw [← ofNat_val (x := 128 + b) (by omega) (by omega)]; exact wrap_u8 _
    have hw3 : IntKind.i64.wrap a = a := IntWalk.i64_in _ (by omega)
    have hw4 : IntKind.i64.wrap b = b := IntWalk.i64_in _ (by omega)
    clear hn2
    go_enter Tryz.func184, Tryz.ntmps184
    go_wp2
    go_ret
    exact laid_fin HZ.out rfl rfl rfl
  by_cases e3 : n < 65536
  · have HZ := Lib.hid (Lib.encodeRuneZ_three (show (2048 ≤ n ∧ n < 55296) ∨ (57343 < n ∧ n ≤ 65535) by omega))
    have ht1 : n.tdiv 4096 = n / 4096 := Int.tdiv_eq_ediv_of_nonneg hn0
    have ht2 : n.tdiv 64 = n / 64 := Int.tdiv_eq_ediv_of_nonneg hn0
    have ht3 : (n / 64).tmod 64 = n / 64 % 64 := Int.tmod_eq_emod_of_nonneg (by omega)
    have ht4 : n.tmod 64 = n % 64 := Int.tmod_eq_emod_of_nonneg hn0
    have ha : 0 ≤ n / 4096 ∧ n / 4096 ≤ 15 := by omega
    have hm : 0 ≤ n / 64 ∧ n / 64 ≤ 1023 := by omega
    have hb : 0 ≤ n / 64 % 64 ∧ n / 64 % 64 ≤ 63 := by omega
    have hc : 0 ≤ n % 64 ∧ n % 64 ≤ 63 := by omega
    obtain ⟨b, hbe⟩ : ∃ b, n / 64 % 64 = b := ⟨_, rfl⟩
    rw [hbe] at ht3 hb HZ
    obtain ⟨m, hme⟩ : ∃ m, n / 64 = m := ⟨_, rfl⟩
    rw [hme] at ht2 hm ht3 hbe
    obtain ⟨a, hae⟩ : ∃ a, n / 4096 = a := ⟨_, rfl⟩
    rw [hae] at ht1 ha HZ
    obtain ⟨c, hce⟩ : ∃ c, n % 64 = c := ⟨_, rfl⟩
    rw [hce] at ht4 hc HZ
    obtain ⟨ha0, ha1⟩ := ha
    obtain ⟨hb0, hb1⟩ := hb
    obtain ⟨hc0, hc1⟩ := hc
    obtain ⟨hm0, hm1⟩ := hm
    have hw1 : IntKind.u8.wrap (224 + a) = 224 + a := by rw [← ofNat_val (x := 224 + a) (by omega) (by omega)]; exact wrap_u8 _
    have hw2 : IntKind.u8.wrap (128 + b) = 128 + b := by rw [← ofNat_val (x := 128 + b) (by omega) (by omega)]; exact wrap_u8 _
    have hw3 : IntKind.u8.wrap (128 + c) = 128 + c := by rw [← ofNat_val (x := 128 + c) (by omega) (by omega)]; exact wrap_u8 _
    have hw4 : IntKind.i64.wrap a = a := IntWalk.i64_in _ (by omega)
    have hw5 : IntKind.i64.wrap b = b := IntWalk.i64_in _ (by omega)
    have hw6 : IntKind.i64.wrap c = c := IntWalk.i64_in _ (by omega)
    have hw7 : IntKind.i64.wrap m = m := IntWalk.i64_in _ (by omega)
    clear hn2
    go_enter Tryz.func184, Tryz.ntmps184
    go_wp2
    go_ret
    exact laid_fin HZ.out rfl rfl rfl
  · have HZ := Lib.hid (Lib.encodeRuneZ_four (show 65536 ≤ n by omega) (show n ≤ 1114111 by omega))
    have ht1 : n.tdiv 262144 = n / 262144 := Int.tdiv_eq_ediv_of_nonneg hn0
    have ht2 : n.tdiv 4096 = n / 4096 := Int.tdiv_eq_ediv_of_nonneg hn0
    have ht3 : (n / 4096).tmod 64 = n / 4096 % 64 := Int.tmod_eq_emod_of_nonneg (by omega)
    have ht4 : n.tdiv 64 = n / 64 := Int.tdiv_eq_ediv_of_nonneg hn0
    have ht5 : (n / 64).tmod 64 = n / 64 % 64 := Int.tmod_eq_emod_of_nonneg (by omega)
    have ht6 : n.tmod 64 = n % 64 := Int.tmod_eq_emod_of_nonneg hn0
    have ha : 0 ≤ n / 262144 ∧ n / 262144 ≤ 4 := by omega
    have hl : 0 ≤ n / 4096 ∧ n / 4096 ≤ 272 := by omega
    have hm : 0 ≤ n / 64 ∧ n / 64 ≤ 17408 := by omega
    have hb : 0 ≤ n / 4096 % 64 ∧ n / 4096 % 64 ≤ 63 := by omega
    have hc : 0 ≤ n / 64 % 64 ∧ n / 64 % 64 ≤ 63 := by omega
    have hd : 0 ≤ n % 64 ∧ n % 64 ≤ 63 := by omega
    obtain ⟨b, hbe⟩ : ∃ b, n / 4096 % 64 = b := ⟨_, rfl⟩
    rw [hbe] at ht3 hb HZ
    obtain ⟨c, hce⟩ : ∃ c, n / 64 % 64 = c := ⟨_, rfl⟩
    rw [hce] at ht5 hc HZ
    obtain ⟨m, hme⟩ : ∃ m, n / 64 = m := ⟨_, rfl⟩
    rw [hme] at ht4 hm ht5 hce
    obtain ⟨q, hqe⟩ : ∃ m, n / 4096 = m := ⟨_, rfl⟩
    rw [hqe] at ht2 hl ht3 hbe
    obtain ⟨a, hae⟩ : ∃ a, n / 262144 = a := ⟨_, rfl⟩
    rw [hae] at ht1 ha HZ
    obtain ⟨d, hde⟩ : ∃ c, n % 64 = c := ⟨_, rfl⟩
    rw [hde] at ht6 hd HZ
    obtain ⟨ha0, ha1⟩ := ha
    obtain ⟨hb0, hb1⟩ := hb
    obtain ⟨hc0, hc1⟩ := hc
    obtain ⟨hd0, hd1⟩ := hd
    obtain ⟨hm0, hm1⟩ := hm
    obtain ⟨hl0, hl1⟩ := hl
    have hw1 : IntKind.u8.wrap (240 + a) = 240 + a := by rw [← ofNat_val (x := 240 + a) (by omega) (by omega)]; exact wrap_u8 _
    have hw2 : IntKind.u8.wrap (128 + b) = 128 + b := by rw [← ofNat_val (x := 128 + b) (by omega) (by omega)]; exact wrap_u8 _
    have hw3 : IntKind.u8.wrap (128 + c) = 128 + c := by rw [← ofNat_val (x := 128 + c) (by omega) (by omega)]; exact wrap_u8 _
    have hw8 : IntKind.u8.wrap (128 + d) = 128 + d := by rw [← ofNat_val (x := 128 + d) (by omega) (by omega)]; exact wrap_u8 _
    have hw4 : IntKind.i64.wrap a = a := IntWalk.i64_in _ (by omega)
    have hw5 : IntKind.i64.wrap b = b := IntWalk.i64_in _ (by omega)
    have hw6 : IntKind.i64.wrap c = c := IntWalk.i64_in _ (by omega)
    have hw7 : IntKind.i64.wrap m = m := IntWalk.i64_in _ (by omega)
    have hw9 : IntKind.i64.wrap d = d := IntWalk.i64_in _ (by omega)
    have hwa : IntKind.i64.wrap q = q := IntWalk.i64_in _ (by omega)
    clear hn2
    go_enter Tryz.func184, Tryz.ntmps184
    go_wp2
    go_ret
    exact laid_fin HZ.out rfl rfl rfl
theorem laid_str (w : World) (n : Int) : (convert 59 9 (laidV w n)).run Tryz.prog (laidW w n) = .ok (.string (ba (Lib.encodeRune n))) (laidW w n) :=
  run_convert_bytes_back (laidW w n) 59 9 5 ⟨w.heap.size, 0, none⟩ _ (Lib.encodeRune n) Tryz.underlying59 Tryz.underlying5 Tryz.underlying9 fun j hj => by
    refine World.news_of_block (MapKept.heap_alloc w _).1 j _ ?_
    show (Lib.runeCells n)[j]? = _
    rw [← Lib.byteCells_encodeRune]
    simp [Lib.byteCells, hj]
theorem laid_below (w : World) (n : Int) : Below w.heap.size w (laidW w n) := (Below.refl _ _).alloc (Nat.le_refl _) _
set_option maxRecDepth 100000 in
set_option maxHeartbeats 4000000 in
theorem rsmall4_any (l : List UInt8) (w : World) (hl : l.length ≤ 1000000000) :
    Calls Tryz.prog 214 #[.string (ba l)] w (StrB w (smallP l)) := by
  obtain ⟨n, hn⟩ : ∃ n, l.length = n := ⟨_, rfl⟩
  have HL := Lib.hid hn
  obtain ⟨s, hs⟩ : ∃ s, ba l = s := ⟨_, rfl⟩
  have HS := Lib.hid hs
  have HZ := Lib.hid (show s.size = n by rw [← hs, ba_size, hn])
  have hsz : (s.size : Int) = n := by rw [HZ.out]
  rw [hs]
  rw [hn] at hl
  clear hs hn
  go_enter Tryz.func214, Tryz.ntmps214
  go_wp2
  go_loopw [3, 4, 5] (fun v i c wr => ∃ (k : Nat) (x : Value), c = x ∧ k ≤ n ∧ i = .int .i64 (k : Int) ∧ Hid (RSmRel w l k v wr)) (fun _ i _ _ => n - (intOf i).toNat)
  case atStart => exact ⟨0, _, rfl, Nat.zero_le _, rfl, OwnBytes.nil_ _ _, Below.refl _ _⟩
  case round =>
    obtain ⟨k, xc, rfl, hk, rfl, HR⟩ := hrel
    have hB := HR.out.2.size
    by_cases hlt : k < n
    · have hk2 : (k : Int) < (n : Int) := by omega
      have hk0 : (0 : Int) ≤ (k : Int) := by omega
      have hks : k < s.size := by rw [HZ.out]; omega
      have hkl : k < l.length := by rw [HL.out]; omega
      have hget : s[k] = l[k] := by
        have h := HS.out
        subst h
        rfl
      have HT := Lib.hid (smallP_snoc hkl)
      have HAL := Lib.hid (show (smallP (l.take k)).length < 1099511627776 by rw [smallP_len, List.length_take]; omega)
      obtain ⟨c, hc⟩ : ∃ c, l[k] = c := ⟨_, rfl⟩
      rw [hc] at hget HT
      obtain ⟨x, hx⟩ : ∃ x : Int, (c.toNat : Int) = x := ⟨_, rfl⟩
      have hgi : ((s[k]).toNat : Int) = x := by rw [hget]; exact hx
      have HX := Lib.hid hx
      have hx0 : 0 ≤ x := by omega
      have hx1 : x ≤ 255 := by have := c.toNat_lt; omega
      clear hc hkl hget hx
      have HY := Lib.hid (smallB_yes (c := c))
      have HNO := Lib.hid (smallB_no (c := c))
      have HOWN := Lib.hid HR.out.1
      have HBEL := Lib.hid HR.out.2
      clear HR
      by_cases e1 : 65 ≤ x ∧ x ≤ 90
      · have g1 : decide (65 ≤ x) = true := decide_eq_true e1.1
        have g2 : decide (x ≤ 90) = true := decide_eq_true e1.2
        have hx2 : x ≤ 90 := e1.2
        have HYB := Lib.hid (show x + 32 = ((smallB c).toNat : Int) by rw [HY.out (by rw [HX.out]; exact e1)]; have := HX.out; have := c.toNat_lt; simp; omega)
        clear e1
        go_wp2_with (at_builtin; go_must (refine wpList_pushByte (y := smallB c) HOWN.out hB HYB.out HAL.out rfl (.tmp 23) (.tmp 25) 1 rfl rfl rfl ?_); intro v2 w2 h1 h2 h3; (have H1 := Lib.hid h1; have H2 := Lib.hid h2; clear h1 h2 h3))
        go_roundw
        case rel =>
          refine ⟨k + 1, _, rfl, by omega, by go_num, ?_, HBEL.out.grown H2.out hB fun g e => (World.ownsRow.lt HOWN.out g e).1⟩
          rw [HT.out]
          exact H1.out
        case measure => simp [intOf] <;> omega
      · have HYB := Lib.hid (show x = ((smallB c).toNat : Int) by rw [HNO.out (by rw [HX.out]; exact e1)]; exact HX.out.symm)
        by_cases e2 : 65 ≤ x
        · have g1 : decide (65 ≤ x) = true := decide_eq_true e2
          have g2 : decide (x ≤ 90) = false := decide_eq_false fun h => e1 ⟨e2, h⟩
          clear e1 e2
          go_wp2_with (at_builtin; go_must (refine wpList_pushByte (y := smallB c) HOWN.out hB HYB.out HAL.out rfl (.tmp 23) (.tmp 25) 1 rfl rfl rfl ?_); intro v2 w2 h1 h2 h3; (have H1 := Lib.hid h1; have H2 := Lib.hid h2; clear h1 h2 h3))
          go_roundw
          case rel =>
            refine ⟨k + 1, _, rfl, by omega, by go_num, ?_, HBEL.out.grown H2.out hB fun g e => (World.ownsRow.lt HOWN.out g e).1⟩
            rw [HT.out]
            exact H1.out
          case measure => simp [intOf] <;> omega
        · have g1 : decide (65 ≤ x) = false := decide_eq_false e2
          clear e1 e2
          go_wp2_with (at_builtin; go_must (refine wpList_pushByte (y := smallB c) HOWN.out hB HYB.out HAL.out rfl (.tmp 23) (.tmp 25) 1 rfl rfl rfl ?_); intro v2 w2 h1 h2 h3; (have H1 := Lib.hid h1; have H2 := Lib.hid h2; clear h1 h2 h3))
          go_roundw
          case rel =>
            refine ⟨k + 1, _, rfl, by omega, by go_num, ?_, HBEL.out.grown H2.out hB fun g e => (World.ownsRow.lt HOWN.out g e).1⟩
            rw [HT.out]
            exact H1.out
          case measure => simp [intOf] <;> omega
    · obtain rfl : k = n := by omega
      have hown : OwnBytes wr w.heap.size u3 (smallP l) := by
        have := HR.out.1
        rw [List.take_of_length_le (by rw [HL.out]; exact Nat.le_refl _)] at this
        exact this
      have hconv := hown.str
      clear hown
      go_wp2
      go_ret
      exact ⟨rfl, HR.out.2⟩
theorem setOf_chain (t : List UInt8) : setOf t = if t = [117, 115, 45, 97, 115, 99, 105, 105] then 1 else if t = [97, 115, 99, 105, 105] then 1 else if t = [117, 116, 102, 45, 56] then 2 else if t = [117, 116, 102, 56] then 2 else if t = [105, 115, 111, 45, 56, 56, 53, 57, 45, 49] then 3 else if t = [108, 97, 116, 105, 110, 49] then 3 else if t = [119, 105, 110, 100, 111, 119, 115, 45, 49, 50, 53, 50] then 4 else if t = [99, 112, 49, 50, 53, 50] then 4 else 0 := by
  unfold setOf
  repeat' split
  all_goals first | rfl | (exfalso; simp_all)
def KindPost (w : World) (k : Nat) (e : Ending) (w' : World) : Prop := e = .returned (.int .i64 (k : Int)) ∧ Below w.heap.size w w'
theorem kind_fin {w w' : World} {k j : Nat} (h : k = j) (hb : Below w.heap.size w w') : KindPost w k (.returned (.int .i64 (j : Int))) w' := by
  subst h
  exact ⟨rfl, hb⟩
set_option maxRecDepth 100000 in
set_option maxHeartbeats 4000000 in
theorem rkind_any (name : List UInt8) (w : World) (hl : name.length ≤ 1000000000) :
    Calls Tryz.prog 185 #[.string (ba name)] w (KindPost w (setOf (smallP name))) := by
  have HS := Lib.hid (rsmall4_any name w hl)
  have HC := Lib.hid (setOf_chain (smallP name))
  obtain ⟨t, ht⟩ : ∃ t, smallP name = t := ⟨_, rfl⟩
  rw [ht] at HS HC ⊢
  have HTL := Lib.hid (ba_toList t)
  unfold StrB at HS
  clear ht
  by_cases e0 : t = [117, 115, 45, 97, 115, 99, 105, 105]
  · have HV := Lib.hid (show setOf t = 1 by rw [HC.out, if_pos e0])
    have g0 : (ba t).toList = [117, 115, 45, 97, 115, 99, 105, 105] := by rw [HTL.out]; exact e0
    clear e0
    go_enter Tryz.func185, Tryz.ntmps185
    go_wp2_with fail
    refine HS.out.mono ?_
    rintro e w2 ⟨rfl, hb⟩
    have HB := Lib.hid hb
    clear hb
    go_wp2
    go_ret
    exact kind_fin HV.out HB.out
  by_cases e1 : t = [97, 115, 99, 105, 105]
  · have HV := Lib.hid (show setOf t = 1 by rw [HC.out, if_neg e0, if_pos e1])
    have g0 : ((ba t).toList == [117, 115, 45, 97, 115, 99, 105, 105]) = false := by rw [HTL.out]; simpa using e0
    have f0 : ¬ (ba t).toList = [117, 115, 45, 97, 115, 99, 105, 105] := by rw [HTL.out]; exact e0
    have g1 : (ba t).toList = [97, 115, 99, 105, 105] := by rw [HTL.out]; exact e1
    clear e0 e1
    go_enter Tryz.func185, Tryz.ntmps185
    go_wp2_with fail
    refine HS.out.mono ?_
    rintro e w2 ⟨rfl, hb⟩
    have HB := Lib.hid hb
    clear hb
    go_wp2
    go_ret
    exact kind_fin HV.out HB.out
  by_cases e2 : t = [117, 116, 102, 45, 56]
  · have HV := Lib.hid (show setOf t = 2 by rw [HC.out, if_neg e0, if_neg e1, if_pos e2])
    have g0 : ((ba t).toList == [117, 115, 45, 97, 115, 99, 105, 105]) = false := by rw [HTL.out]; simpa using e0
    have f0 : ¬ (ba t).toList = [117, 115, 45, 97, 115, 99, 105, 105] := by rw [HTL.out]; exact e0
    have g1 : ((ba t).toList == [97, 115, 99, 105, 105]) = false := by rw [HTL.out]; simpa using e1
    have f1 : ¬ (ba t).toList = [97, 115, 99, 105, 105] := by rw [HTL.out]; exact e1
    have g2 : (ba t).toList = [117, 116, 102, 45, 56] := by rw [HTL.out]; exact e2
    clear e0 e1 e2
    go_enter Tryz.func185, Tryz.ntmps185
    go_wp2_with fail
    refine HS.out.mono ?_
    rintro e w2 ⟨rfl, hb⟩
    have HB := Lib.hid hb
    clear hb
    go_wp2
    go_ret
    exact kind_fin HV.out HB.out
  by_cases e3 : t = [117, 116, 102, 56]
  · have HV := Lib.hid (show setOf t = 2 by rw [HC.out, if_neg e0, if_neg e1, if_neg e2, if_pos e3])
    have g0 : ((ba t).toList == [117, 115, 45, 97, 115, 99, 105, 105]) = false := by rw [HTL.out]; simpa using e0
    have f0 : ¬ (ba t).toList = [117, 115, 45, 97, 115, 99, 105, 105] := by rw [HTL.out]; exact e0
    have g1 : ((ba t).toList == [97, 115, 99, 105, 105]) = false := by rw [HTL.out]; simpa using e1
    have f1 : ¬ (ba t).toList = [97, 115, 99, 105, 105] := by rw [HTL.out]; exact e1
    have g2 : ((ba t).toList == [117, 116, 102, 45, 56]) = false := by rw [HTL.out]; simpa using e2
    have f2 : ¬ (ba t).toList = [117, 116, 102, 45, 56] := by rw [HTL.out]; exact e2
    have g3 : (ba t).toList = [117, 116, 102, 56] := by rw [HTL.out]; exact e3
    clear e0 e1 e2 e3
    go_enter Tryz.func185, Tryz.ntmps185
    go_wp2_with fail
    refine HS.out.mono ?_
    rintro e w2 ⟨rfl, hb⟩
    have HB := Lib.hid hb
    clear hb
    go_wp2
    go_ret
    exact kind_fin HV.out HB.out
  by_cases e4 : t = [105, 115, 111, 45, 56, 56, 53, 57, 45, 49]
  · have HV := Lib.hid (show setOf t = 3 by rw [HC.out, if_neg e0, if_neg e1, if_neg e2, if_neg e3, if_pos e4])
    have g0 : ((ba t).toList == [117, 115, 45, 97, 115, 99, 105, 105]) = false := by rw [HTL.out]; simpa using e0
    have f0 : ¬ (ba t).toList = [117, 115, 45, 97, 115, 99, 105, 105] := by rw [HTL.out]; exact e0
    have g1 : ((ba t).toList == [97, 115, 99, 105, 105]) = false := by rw [HTL.out]; simpa using e1
    have f1 : ¬ (ba t).toList = [97, 115, 99, 105, 105] := by rw [HTL.out]; exact e1
    have g2 : ((ba t).toList == [117, 116, 102, 45, 56]) = false := by rw [HTL.out]; simpa using e2
    have f2 : ¬ (ba t).toList = [117, 116, 102, 45, 56] := by rw [HTL.out]; exact e2
    have g3 : ((ba t).toList == [117, 116, 102, 56]) = false := by rw [HTL.out]; simpa using e3
    have f3 : ¬ (ba t).toList = [117, 116, 102, 56] := by rw [HTL.out]; exact e3
    have g4 : (ba t).toList = [105, 115, 111, 45, 56, 56, 53, 57, 45, 49] := by rw [HTL.out]; exact e4
    clear e0 e1 e2 e3 e4
    go_enter Tryz.func185, Tryz.ntmps185
    go_wp2_with fail
    refine HS.out.mono ?_
    rintro e w2 ⟨rfl, hb⟩
    have HB := Lib.hid hb
    clear hb
    go_wp2
    go_ret
    exact kind_fin HV.out HB.out
  by_cases e5 : t = [108, 97, 116, 105, 110, 49]
  · have HV := Lib.hid (show setOf t = 3 by rw [HC.out, if_neg e0, if_neg e1, if_neg e2, if_neg e3, if_neg e4, if_pos e5])
    have g0 : ((ba t).toList == [117, 115, 45, 97, 115, 99, 105, 105]) = false := by rw [HTL.out]; simpa using e0
    have f0 : ¬ (ba t).toList = [117, 115, 45, 97, 115, 99, 105, 105] := by rw [HTL.out]; exact e0
    have g1 : ((ba t).toList == [97, 115, 99, 105, 105]) = false := by rw [HTL.out]; simpa using e1
    have f1 : ¬ (ba t).toList = [97, 115, 99, 105, 105] := by rw [HTL.out]; exact e1
    have g2 : ((ba t).toList == [117, 116, 102, 45, 56]) = false := by rw [HTL.out]; simpa using e2
    have f2 : ¬ (ba t).toList = [117, 116, 102, 45, 56] := by rw [HTL.out]; exact e2
    have g3 : ((ba t).toList == [117, 116, 102, 56]) = false := by rw [HTL.out]; simpa using e3
    have f3 : ¬ (ba t).toList = [117, 116, 102, 56] := by rw [HTL.out]; exact e3
    have g4 : ((ba t).toList == [105, 115, 111, 45, 56, 56, 53, 57, 45, 49]) = false := by rw [HTL.out]; simpa using e4
    have f4 : ¬ (ba t).toList = [105, 115, 111, 45, 56, 56, 53, 57, 45, 49] := by rw [HTL.out]; exact e4
    have g5 : (ba t).toList = [108, 97, 116, 105, 110, 49] := by rw [HTL.out]; exact e5
    clear e0 e1 e2 e3 e4 e5
    go_enter Tryz.func185, Tryz.ntmps185
    go_wp2_with fail
    refine HS.out.mono ?_
    rintro e w2 ⟨rfl, hb⟩
    have HB := Lib.hid hb
    clear hb
    go_wp2
    go_ret
    exact kind_fin HV.out HB.out
  by_cases e6 : t = [119, 105, 110, 100, 111, 119, 115, 45, 49, 50, 53, 50]
  · have HV := Lib.hid (show setOf t = 4 by rw [HC.out, if_neg e0, if_neg e1, if_neg e2, if_neg e3, if_neg e4, if_neg e5, if_pos e6])
    have g0 : ((ba t).toList == [117, 115, 45, 97, 115, 99, 105, 105]) = false := by rw [HTL.out]; simpa using e0
    have f0 : ¬ (ba t).toList = [117, 115, 45, 97, 115, 99, 105, 105] := by rw [HTL.out]; exact e0
    have g1 : ((ba t).toList == [97, 115, 99, 105, 105]) = false := by rw [HTL.out]; simpa using e1
    have f1 : ¬ (ba t).toList = [97, 115, 99, 105, 105] := by rw [HTL.out]; exact e1
    have g2 : ((ba t).toList == [117, 116, 102, 45, 56]) = false := by rw [HTL.out]; simpa using e2
    have f2 : ¬ (ba t).toList = [117, 116, 102, 45, 56] := by rw [HTL.out]; exact e2
    have g3 : ((ba t).toList == [117, 116, 102, 56]) = false := by rw [HTL.out]; simpa using e3
    have f3 : ¬ (ba t).toList = [117, 116, 102, 56] := by rw [HTL.out]; exact e3
    have g4 : ((ba t).toList == [105, 115, 111, 45, 56, 56, 53, 57, 45, 49]) = false := by rw [HTL.out]; simpa using e4
    have f4 : ¬ (ba t).toList = [105, 115, 111, 45, 56, 56, 53, 57, 45, 49] := by rw [HTL.out]; exact e4
    have g5 : ((ba t).toList == [108, 97, 116, 105, 110, 49]) = false := by rw [HTL.out]; simpa using e5
    have f5 : ¬ (ba t).toList = [108, 97, 116, 105, 110, 49] := by rw [HTL.out]; exact e5
    have g6 : (ba t).toList = [119, 105, 110, 100, 111, 119, 115, 45, 49, 50, 53, 50] := by rw [HTL.out]; exact e6
    clear e0 e1 e2 e3 e4 e5 e6
    go_enter Tryz.func185, Tryz.ntmps185
    go_wp2_with fail
    refine HS.out.mono ?_
    rintro e w2 ⟨rfl, hb⟩
    have HB := Lib.hid hb
    clear hb
    go_wp2
    go_ret
    exact kind_fin HV.out HB.out
  by_cases e7 : t = [99, 112, 49, 50, 53, 50]
  · have HV := Lib.hid (show setOf t = 4 by rw [HC.out, if_neg e0, if_neg e1, if_neg e2, if_neg e3, if_neg e4, if_neg e5, if_neg e6, if_pos e7])
    have g0 : ((ba t).toList == [117, 115, 45, 97, 115, 99, 105, 105]) = false := by rw [HTL.out]; simpa using e0
    have f0 : ¬ (ba t).toList = [117, 115, 45, 97, 115, 99, 105, 105] := by rw [HTL.out]; exact e0
    have g1 : ((ba t).toList == [97, 115, 99, 105, 105]) = false := by rw [HTL.out]; simpa using e1
    have f1 : ¬ (ba t).toList = [97, 115, 99, 105, 105] := by rw [HTL.out]; exact e1
    have g2 : ((ba t).toList == [117, 116, 102, 45, 56]) = false := by rw [HTL.out]; simpa using e2
    have f2 : ¬ (ba t).toList = [117, 116, 102, 45, 56] := by rw [HTL.out]; exact e2
    have g3 : ((ba t).toList == [117, 116, 102, 56]) = false := by rw [HTL.out]; simpa using e3
    have f3 : ¬ (ba t).toList = [117, 116, 102, 56] := by rw [HTL.out]; exact e3
    have g4 : ((ba t).toList == [105, 115, 111, 45, 56, 56, 53, 57, 45, 49]) = false := by rw [HTL.out]; simpa using e4
    have f4 : ¬ (ba t).toList = [105, 115, 111, 45, 56, 56, 53, 57, 45, 49] := by rw [HTL.out]; exact e4
    have g5 : ((ba t).toList == [108, 97, 116, 105, 110, 49]) = false := by rw [HTL.out]; simpa using e5
    have f5 : ¬ (ba t).toList = [108, 97, 116, 105, 110, 49] := by rw [HTL.out]; exact e5
    have g6 : ((ba t).toList == [119, 105, 110, 100, 111, 119, 115, 45, 49, 50, 53, 50]) = false := by rw [HTL.out]; simpa using e6
    have f6 : ¬ (ba t).toList = [119, 105, 110, 100, 111, 119, 115, 45, 49, 50, 53, 50] := by rw [HTL.out]; exact e6
    have g7 : (ba t).toList = [99, 112, 49, 50, 53, 50] := by rw [HTL.out]; exact e7
    clear e0 e1 e2 e3 e4 e5 e6 e7
    go_enter Tryz.func185, Tryz.ntmps185
    go_wp2_with fail
    refine HS.out.mono ?_
    rintro e w2 ⟨rfl, hb⟩
    have HB := Lib.hid hb
    clear hb
    go_wp2
    go_ret
    exact kind_fin HV.out HB.out
  have HV := Lib.hid (show setOf t = 0 by rw [HC.out, if_neg e0, if_neg e1, if_neg e2, if_neg e3, if_neg e4, if_neg e5, if_neg e6, if_neg e7])
  have g0 : ((ba t).toList == [117, 115, 45, 97, 115, 99, 105, 105]) = false := by rw [HTL.out]; simpa using e0
  have f0 : ¬ (ba t).toList = [117, 115, 45, 97, 115, 99, 105, 105] := by rw [HTL.out]; exact e0
  have g1 : ((ba t).toList == [97, 115, 99, 105, 105]) = false := by rw [HTL.out]; simpa using e1
  have f1 : ¬ (ba t).toList = [97, 115, 99, 105, 105] := by rw [HTL.out]; exact e1
  have g2 : ((ba t).toList == [117, 116, 102, 45, 56]) = false := by rw [HTL.out]; simpa using e2
  have f2 : ¬ (ba t).toList = [117, 116, 102, 45, 56] := by rw [HTL.out]; exact e2
  have g3 : ((ba t).toList == [117, 116, 102, 56]) = false := by rw [HTL.out]; simpa using e3
  have f3 : ¬ (ba t).toList = [117, 116, 102, 56] := by rw [HTL.out]; exact e3
  have g4 : ((ba t).toList == [105, 115, 111, 45, 56, 56, 53, 57, 45, 49]) = false := by rw [HTL.out]; simpa using e4
  have f4 : ¬ (ba t).toList = [105, 115, 111, 45, 56, 56, 53, 57, 45, 49] := by rw [HTL.out]; exact e4
  have g5 : ((ba t).toList == [108, 97, 116, 105, 110, 49]) = false := by rw [HTL.out]; simpa using e5
  have f5 : ¬ (ba t).toList = [108, 97, 116, 105, 110, 49] := by rw [HTL.out]; exact e5
  have g6 : ((ba t).toList == [119, 105, 110, 100, 111, 119, 115, 45, 49, 50, 53, 50]) = false := by rw [HTL.out]; simpa using e6
  have f6 : ¬ (ba t).toList = [119, 105, 110, 100, 111, 119, 115, 45, 49, 50, 53, 50] := by rw [HTL.out]; exact e6
  have g7 : ((ba t).toList == [99, 112, 49, 50, 53, 50]) = false := by rw [HTL.out]; simpa using e7
  have f7 : ¬ (ba t).toList = [99, 112, 49, 50, 53, 50] := by rw [HTL.out]; exact e7
  clear e0 e1 e2 e3 e4 e5 e6 e7
  go_enter Tryz.func185, Tryz.ntmps185
  go_wp2_with fail
  refine HS.out.mono ?_
  rintro e w2 ⟨rfl, hb⟩
  have HB := Lib.hid hb
  clear hb
  go_wp2
  go_ret
  exact kind_fin HV.out HB.out
end Go.Proofs.YtnpgnohlcphfnaaGreatDoor
