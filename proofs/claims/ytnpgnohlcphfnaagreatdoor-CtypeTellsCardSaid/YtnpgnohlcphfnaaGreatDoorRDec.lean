/- Reference 4: the contract of Decode (printed by gen_rdec.py). -/
import Derived.Test.YtnpgnohlcphfnaaGreatDoorRRep
import Derived.Test.YtnpgnohlcphfnaaGreatDoorM07
namespace Go.Proofs.YtnpgnohlcphfnaaGreatDoor
open Go.RowKit
set_option linter.unusedVariables false

theorem sign_all (c : UInt8) : signR ((signA c : Nat) : Int) = true ∧ signR ((signL c : Nat) : Int) = true ∧ signR ((signW c : Nat) : Int) = true := u8_all (fun c => signR ((signA c : Nat) : Int) = true ∧ signR ((signL c : Nat) : Int) = true ∧ signR ((signW c : Nat) : Int) = true) (by decide +kernel) c
theorem bytesBy_snoc {f : UInt8 → Nat} {l : List UInt8} {k : Nat} (hk : k < l.length) : bytesBy f (l.take (k + 1)) = bytesBy f (l.take k) ++ Lib.encodeRune ((f l[k] : Nat) : Int) := by
  rw [List.take_succ_eq_append_getElem hk]
  unfold bytesBy
  rw [List.flatMap_append]
  simp
theorem bytesBy_len (f : UInt8 → Nat) (l : List UInt8) : (bytesBy f l).length ≤ 4 * l.length := by
  induction l with
  | nil => simp [bytesBy]
  | cons a r ih =>
    have h1 := enc_len ((f a : Nat) : Int)
    have e : bytesBy f (a :: r) = Lib.encodeRune ((f a : Nat) : Int) ++ bytesBy f r := rfl
    rw [e, List.length_append, List.length_cons]
    omega
structure DcRel (w : World) (f : UInt8 → Nat) (l : List UInt8) (k : Nat) (v : Value) (wr : World) : Prop where
  own : OwnBytes wr w.heap.size v (bytesBy f (l.take k))
  bel : Below w.heap.size w wr
theorem dec_end {w w' : World} {name l r : List UInt8} {k : Nat} {b : Bool} (hk : setOf (smallP name) = k) (hd : decodeSet name l = r) (hb : decide (k ≠ 0) = b) (hw : Below w.heap.size w w') : DecPost w name l (.returned (.tuple #[.string (ba r), .bool b])) w' := by
  subst hd; subst hb; subst hk
  exact ⟨rfl, hw⟩
theorem signA_x {c : UInt8} {x : Int} (h : (c.toNat : Int) = x) : (x < 128 → ((signA c : Nat) : Int) = x) ∧ (¬ x < 128 → ((signA c : Nat) : Int) = 65533) := by
  have e : (c < 128) ↔ c.toNat < 128 := UInt8.lt_iff_toNat_lt
  unfold signA
  constructor
  · intro hx; rw [if_pos (e.2 (by omega))]; exact h
  · intro hx; rw [if_neg (fun hc => hx (by have := e.1 hc; omega))]; rfl
theorem signW_x {c : UInt8} {x : Int} (h : (c.toNat : Int) = x) : (¬ (128 ≤ x ∧ x < 160) → ((signW c : Nat) : Int) = x) ∧ (128 ≤ x ∧ x < 160 → ((signW c : Nat) : Int) = ((windowsT.getD (c.toNat - 128) 0 : Nat) : Int)) := by
  have e : (c < 128) ↔ c.toNat < 128 := UInt8.lt_iff_toNat_lt
  have e2 : (160 ≤ c) ↔ 160 ≤ c.toNat := UInt8.le_iff_toNat_le
  unfold signW
  constructor
  · intro hx
    rw [if_pos]
    · exact h
    · rcases Nat.lt_or_ge c.toNat 128 with h1 | h1
      · exact .inl (e.2 h1)
      · exact .inr (e2.2 (by omega))
  · intro hx
    rw [if_neg]
    rintro (h1 | h1)
    · have := e.1 h1; omega
    · have := e2.1 h1; omega
set_option maxRecDepth 100000 in
set_option maxHeartbeats 4000000 in
theorem rdecode_any (name l : List UInt8) (w : World) (hn : name.length ≤ 1000000000) (hl : l.length ≤ 1000000000) :
    Calls Tryz.prog 152 #[.string (ba name), .string (ba l)] w (DecPost w name l) := by
  have HKI := Lib.hid (fun W => rkind_any name W hn)
  have HRP := Lib.hid (fun W => rrepair_any l W hl)
  obtain ⟨kk, hkk⟩ : ∃ k, setOf (smallP name) = k := ⟨_, rfl⟩
  have HKK := Lib.hid hkk
  have HDS := Lib.hid (show decodeSet name l = decK kk l from by unfold decodeSet; rw [hkk]; rfl)
  have hk5 : kk < 5 := by rw [← hkk]; unfold setOf; repeat' split
                          all_goals omega
  unfold KindPost at HKI
  unfold StrB at HRP
  rw [hkk] at HKI
  obtain ⟨sn, hsn⟩ : ∃ q, ba name = q := ⟨_, rfl⟩
  simp only [hsn] at HKI
  rw [hsn]
  obtain ⟨rp, hrp⟩ : ∃ q, ba (repairP l) = q := ⟨_, rfl⟩
  have HRQ := Lib.hid hrp
  simp only [hrp] at HRP
  clear hkk hsn hrp
  obtain ⟨n, hn⟩ : ∃ n, l.length = n := ⟨_, rfl⟩
  have HL := Lib.hid hn
  obtain ⟨s, hs⟩ : ∃ s, ba l = s := ⟨_, rfl⟩
  have HS := Lib.hid hs
  have HZ := Lib.hid (show s.size = n by rw [← hs, ba_size, hn])
  have hsz : (s.size : Int) = n := by rw [HZ.out]
  rw [hs]
  rw [hn] at hl
  clear hs hn
  rw [HS.out] at HRP
  go_enter Tryz.func152, Tryz.ntmps152
  go_wp2_with fail
  refine (HKI.out _).mono ?_
  rintro e w2 ⟨rfl, hb2⟩
  have HTB := Lib.hid (show ∀ j, j < 32 → w2.cell? ⟨w.heap.size, j, none⟩ = some (.int .i64 ((windowsT.getD j 0 : Nat) : Int)) from fun j hj => by
    refine (hb2.cell (p := ⟨w.heap.size, j, none⟩) (by simp)).trans ?_
    rw [show (⟨w.heap.size, j, none⟩ : Addr) = (⟨w.heap.size, 0, none⟩ : Addr).add j by simp [Addr.add]]
    refine World.news_of_block (MapKept.heap_alloc w _).1 j _ ?_
    show ((windowsT.map fun (q : Nat) => Value.int .i64 (q : Int)).toArray.toList)[j]? = _
    have h32 : windowsT.length = 32 := rfl
    simp [List.getD_eq_getElem?_getD, List.getElem?_eq_getElem (show j < windowsT.length by omega)])
  have HB2 := Lib.hid (show Below w.heap.size w w2 from ((Below.refl w.heap.size w).alloc (Nat.le_refl _) _).trans (hb2.mono (by simp)))
  have hzt : w.heap.size < w2.heap.size := by have := hb2.size; simp at this; omega
  clear hb2 HKI
  obtain rfl | rfl | rfl | rfl | rfl : kk = 0 ∨ kk = 1 ∨ kk = 2 ∨ kk = 3 ∨ kk = 4 := by omega
  · have HDD := Lib.hid (show decodeSet name l = bytesBy signW l from HDS.out)
    clear HDS HRP
    go_wp2
    go_loopw [8, 9, 10] (fun v i q wr => ∃ (k : Nat) (y : Value), q = y ∧ k ≤ n ∧ i = .int .i64 (k : Int) ∧ Hid (DcRel w2 signW l k v wr)) (fun _ i _ _ => n - (intOf i).toNat)
    case atStart => exact ⟨0, _, rfl, Nat.zero_le _, rfl, Lib.hid ⟨OwnBytes.nil_ _ _, Below.refl _ _⟩⟩
    case round =>
      obtain ⟨k, y0, rfl, hk, rfl, HR⟩ := hrel
      have hB := HR.out.bel.size
      by_cases hlt : k < n
      · have hk2 : (k : Int) < (n : Int) := by omega
        have hk0 : (0 : Int) ≤ (k : Int) := by omega
        have hks : k < s.size := by rw [HZ.out]; omega
        have hkl : k < l.length := by rw [HL.out]; omega
        have hget : s[k] = l[k] := by
          have h := HS.out
          subst h
          rfl
        have HSN := Lib.hid (bytesBy_snoc (f := signW) hkl)
        have HAL := Lib.hid (show (bytesBy signW (l.take k)).length < 1099511627776 by have := bytesBy_len signW (l.take k); rw [List.length_take] at this; omega)
        have HOWN := Lib.hid HR.out.own
        have HBE := Lib.hid HR.out.bel
        obtain ⟨c, hc⟩ : ∃ c, l[k] = c := ⟨_, rfl⟩
        rw [hc] at hget HSN
        obtain ⟨x, hx⟩ : ∃ x : Int, (c.toNat : Int) = x := ⟨_, rfl⟩
        have hgi : ((s[k]).toNat : Int) = x := by rw [hget]; exact hx
        have HX := Lib.hid hx
        have hx0 : 0 ≤ x := by omega
        have hx1 : x ≤ 255 := by have := c.toNat_lt; omega
        clear hc hkl hget hx
        have hsg := (sign_all c).2.2
        clear HR
        by_cases e1 : x < 128
        · have g1 : ¬ 128 ≤ x := by omega
          have HEQ := Lib.hid (show ((signW c : Nat) : Int) = x from (signW_x HX.out).1 (by omega))
          rw [HEQ.out] at hsg HSN
          have HLA := Lib.hid (fun W => rlaid_any _ W hsg)
          clear hsg HEQ
          go_wp2_with fail
          refine (HLA.out _).mono ?_
          rintro e w3 ⟨rfl, hw3⟩
          subst hw3
          go_wp2_with (at_builtin; go_must (refine wpList_pushLaid HOWN.out hB HAL.out rfl (.tmp 53) (.tmp 55) rfl rfl rfl ?_); intro v2 w4 h1 h2; (have H1 := Lib.hid h1; have H2 := Lib.hid h2; clear h1 h2))
          go_roundw
          case rel =>
            refine ⟨k + 1, _, rfl, by omega, by go_num, Lib.hid ⟨?_, HBE.out.grown H2.out hB fun g e => (World.ownsRow.lt HOWN.out g e).1⟩⟩
            rw [HSN.out]
            exact H1.out
          case measure => simp [intOf] <;> omega
        · by_cases e2 : x < 160
          · have g1 : 128 ≤ x := by omega
            have hj0 : 0 ≤ x - 128 := by omega
            have hj1 : x - 128 < 32 := by omega
            have hcn : c.toNat - 128 = (x - 128).toNat := by have := HX.out; omega
            have hEW := (signW_x HX.out).2 ⟨g1, e2⟩
            rw [hcn] at hEW
            have htb := (HBE.out.cell (p := ⟨w.heap.size, (x - 128).toNat, none⟩) hzt).trans (HTB.out (x - 128).toNat (by omega))
            obtain ⟨t, ht⟩ : ∃ t : Int, ((windowsT.getD (x - 128).toNat 0 : Nat) : Int) = t := ⟨_, rfl⟩
            rw [ht] at htb hEW
            have HEW := Lib.hid hEW
            clear ht hEW hcn
            have HEQ := Lib.hid (show ((signW c : Nat) : Int) = t from HEW.out)
            rw [HEQ.out] at hsg HSN
            have HLA := Lib.hid (fun W => rlaid_any _ W hsg)
            clear hsg HEQ
            go_wp2_with fail
            refine (HLA.out _).mono ?_
            rintro e w3 ⟨rfl, hw3⟩
            subst hw3
            go_wp2_with (at_builtin; go_must (refine wpList_pushLaid HOWN.out hB HAL.out rfl (.tmp 53) (.tmp 55) rfl rfl rfl ?_); intro v2 w4 h1 h2; (have H1 := Lib.hid h1; have H2 := Lib.hid h2; clear h1 h2))
            go_roundw
            case rel =>
              refine ⟨k + 1, _, rfl, by omega, by go_num, Lib.hid ⟨?_, HBE.out.grown H2.out hB fun g e => (World.ownsRow.lt HOWN.out g e).1⟩⟩
              rw [HSN.out]
              exact H1.out
            case measure => simp [intOf] <;> omega
          · have g1 : 128 ≤ x := by omega
            have HEQ := Lib.hid (show ((signW c : Nat) : Int) = x from (signW_x HX.out).1 (by omega))
            rw [HEQ.out] at hsg HSN
            have HLA := Lib.hid (fun W => rlaid_any _ W hsg)
            clear hsg HEQ
            go_wp2_with fail
            refine (HLA.out _).mono ?_
            rintro e w3 ⟨rfl, hw3⟩
            subst hw3
            go_wp2_with (at_builtin; go_must (refine wpList_pushLaid HOWN.out hB HAL.out rfl (.tmp 53) (.tmp 55) rfl rfl rfl ?_); intro v2 w4 h1 h2; (have H1 := Lib.hid h1; have H2 := Lib.hid h2; clear h1 h2))
            go_roundw
            case rel =>
              refine ⟨k + 1, _, rfl, by omega, by go_num, Lib.hid ⟨?_, HBE.out.grown H2.out hB fun g e => (World.ownsRow.lt HOWN.out g e).1⟩⟩
              rw [HSN.out]
              exact H1.out
            case measure => simp [intOf] <;> omega
      · obtain rfl : n = k := by omega
        have hst := HR.out.own.str
        have HBE := Lib.hid HR.out.bel
        rw [List.take_of_length_le (by rw [HL.out]; exact Nat.le_refl _)] at hst
        clear HR
        go_wp2
        go_ret2
        exact dec_end HKK.out HDD.out (by decide) (HB2.out.trans (HBE.out.mono HB2.out.size))
  · have HDD := Lib.hid (show decodeSet name l = bytesBy signA l from HDS.out)
    clear HDS HRP
    go_wp2
    go_loopw [8, 9, 10] (fun v i q wr => ∃ (k : Nat) (y : Value), q = y ∧ k ≤ n ∧ i = .int .i64 (k : Int) ∧ Hid (DcRel w2 signA l k v wr)) (fun _ i _ _ => n - (intOf i).toNat)
    case atStart => exact ⟨0, _, rfl, Nat.zero_le _, rfl, Lib.hid ⟨OwnBytes.nil_ _ _, Below.refl _ _⟩⟩
    case round =>
      obtain ⟨k, y0, rfl, hk, rfl, HR⟩ := hrel
      have hB := HR.out.bel.size
      by_cases hlt : k < n
      · have hk2 : (k : Int) < (n : Int) := by omega
        have hk0 : (0 : Int) ≤ (k : Int) := by omega
        have hks : k < s.size := by rw [HZ.out]; omega
        have hkl : k < l.length := by rw [HL.out]; omega
        have hget : s[k] = l[k] := by
          have h := HS.out
          subst h
          rfl
        have HSN := Lib.hid (bytesBy_snoc (f := signA) hkl)
        have HAL := Lib.hid (show (bytesBy signA (l.take k)).length < 1099511627776 by have := bytesBy_len signA (l.take k); rw [List.length_take] at this; omega)
        have HOWN := Lib.hid HR.out.own
        have HBE := Lib.hid HR.out.bel
        obtain ⟨c, hc⟩ : ∃ c, l[k] = c := ⟨_, rfl⟩
        rw [hc] at hget HSN
        obtain ⟨x, hx⟩ : ∃ x : Int, (c.toNat : Int) = x := ⟨_, rfl⟩
        have hgi : ((s[k]).toNat : Int) = x := by rw [hget]; exact hx
        have HX := Lib.hid hx
        have hx0 : 0 ≤ x := by omega
        have hx1 : x ≤ 255 := by have := c.toNat_lt; omega
        clear hc hkl hget hx
        have hsg := (sign_all c).1
        clear HR
        by_cases e1 : x < 128
        · have g1 : ¬ 128 ≤ x := by omega
          have HEQ := Lib.hid (show ((signA c : Nat) : Int) = x from (signA_x HX.out).1 e1)
          rw [HEQ.out] at hsg HSN
          have HLA := Lib.hid (fun W => rlaid_any _ W hsg)
          clear hsg HEQ
          go_wp2_with fail
          refine (HLA.out _).mono ?_
          rintro e w3 ⟨rfl, hw3⟩
          subst hw3
          go_wp2_with (at_builtin; go_must (refine wpList_pushLaid HOWN.out hB HAL.out rfl (.tmp 53) (.tmp 55) rfl rfl rfl ?_); intro v2 w4 h1 h2; (have H1 := Lib.hid h1; have H2 := Lib.hid h2; clear h1 h2))
          go_roundw
          case rel =>
            refine ⟨k + 1, _, rfl, by omega, by go_num, Lib.hid ⟨?_, HBE.out.grown H2.out hB fun g e => (World.ownsRow.lt HOWN.out g e).1⟩⟩
            rw [HSN.out]
            exact H1.out
          case measure => simp [intOf] <;> omega
        · have g1 : 128 ≤ x := by omega
          have HEQ := Lib.hid (show ((signA c : Nat) : Int) = 65533 from (signA_x HX.out).2 e1)
          rw [HEQ.out] at hsg HSN
          have HLA := Lib.hid (fun W => rlaid_any _ W hsg)
          clear hsg HEQ
          go_wp2_with fail
          refine (HLA.out _).mono ?_
          rintro e w3 ⟨rfl, hw3⟩
          subst hw3
          go_wp2_with (at_builtin; go_must (refine wpList_pushLaid HOWN.out hB HAL.out rfl (.tmp 53) (.tmp 55) rfl rfl rfl ?_); intro v2 w4 h1 h2; (have H1 := Lib.hid h1; have H2 := Lib.hid h2; clear h1 h2))
          go_roundw
          case rel =>
            refine ⟨k + 1, _, rfl, by omega, by go_num, Lib.hid ⟨?_, HBE.out.grown H2.out hB fun g e => (World.ownsRow.lt HOWN.out g e).1⟩⟩
            rw [HSN.out]
            exact H1.out
          case measure => simp [intOf] <;> omega
      · obtain rfl : n = k := by omega
        have hst := HR.out.own.str
        have HBE := Lib.hid HR.out.bel
        rw [List.take_of_length_le (by rw [HL.out]; exact Nat.le_refl _)] at hst
        clear HR
        go_wp2
        go_ret2
        exact dec_end HKK.out HDD.out (by decide) (HB2.out.trans (HBE.out.mono HB2.out.size))
  · have HDD := Lib.hid (show decodeSet name l = repairP l from HDS.out)
    clear HDS
    go_wp2_with fail
    refine (HRP.out _).mono ?_
    rintro e w3 ⟨rfl, hb3⟩
    have HB3 := Lib.hid (HB2.out.trans (hb3.mono HB2.out.size))
    clear hb3
    go_wp2
    go_ret2
    rw [← HRQ.out]
    exact dec_end HKK.out HDD.out (by decide) HB3.out
  · have HDD := Lib.hid (show decodeSet name l = bytesBy signL l from HDS.out)
    clear HDS HRP
    go_wp2
    go_loopw [8, 9, 10] (fun v i q wr => ∃ (k : Nat) (y : Value), q = y ∧ k ≤ n ∧ i = .int .i64 (k : Int) ∧ Hid (DcRel w2 signL l k v wr)) (fun _ i _ _ => n - (intOf i).toNat)
    case atStart => exact ⟨0, _, rfl, Nat.zero_le _, rfl, Lib.hid ⟨OwnBytes.nil_ _ _, Below.refl _ _⟩⟩
    case round =>
      obtain ⟨k, y0, rfl, hk, rfl, HR⟩ := hrel
      have hB := HR.out.bel.size
      by_cases hlt : k < n
      · have hk2 : (k : Int) < (n : Int) := by omega
        have hk0 : (0 : Int) ≤ (k : Int) := by omega
        have hks : k < s.size := by rw [HZ.out]; omega
        have hkl : k < l.length := by rw [HL.out]; omega
        have hget : s[k] = l[k] := by
          have h := HS.out
          subst h
          rfl
        have HSN := Lib.hid (bytesBy_snoc (f := signL) hkl)
        have HAL := Lib.hid (show (bytesBy signL (l.take k)).length < 1099511627776 by have := bytesBy_len signL (l.take k); rw [List.length_take] at this; omega)
        have HOWN := Lib.hid HR.out.own
        have HBE := Lib.hid HR.out.bel
        obtain ⟨c, hc⟩ : ∃ c, l[k] = c := ⟨_, rfl⟩
        rw [hc] at hget HSN
        obtain ⟨x, hx⟩ : ∃ x : Int, (c.toNat : Int) = x := ⟨_, rfl⟩
        have hgi : ((s[k]).toNat : Int) = x := by rw [hget]; exact hx
        have HX := Lib.hid hx
        have hx0 : 0 ≤ x := by omega
        have hx1 : x ≤ 255 := by have := c.toNat_lt; omega
        clear hc hkl hget hx
        have hsg := (sign_all c).2.1
        clear HR
        have HEQ := Lib.hid (show ((signL c : Nat) : Int) = x from HX.out)
        rw [HEQ.out] at hsg HSN
        have HLA := Lib.hid (fun W => rlaid_any _ W hsg)
        clear hsg HEQ
        go_wp2_with fail
        refine (HLA.out _).mono ?_
        rintro e w3 ⟨rfl, hw3⟩
        subst hw3
        go_wp2_with (at_builtin; go_must (refine wpList_pushLaid HOWN.out hB HAL.out rfl (.tmp 53) (.tmp 55) rfl rfl rfl ?_); intro v2 w4 h1 h2; (have H1 := Lib.hid h1; have H2 := Lib.hid h2; clear h1 h2))
        go_roundw
        case rel =>
          refine ⟨k + 1, _, rfl, by omega, by go_num, Lib.hid ⟨?_, HBE.out.grown H2.out hB fun g e => (World.ownsRow.lt HOWN.out g e).1⟩⟩
          rw [HSN.out]
          exact H1.out
        case measure => simp [intOf] <;> omega
      · obtain rfl : n = k := by omega
        have hst := HR.out.own.str
        have HBE := Lib.hid HR.out.bel
        rw [List.take_of_length_le (by rw [HL.out]; exact Nat.le_refl _)] at hst
        clear HR
        go_wp2
        go_ret2
        exact dec_end HKK.out HDD.out (by decide) (HB2.out.trans (HBE.out.mono HB2.out.size))
  · have HDD := Lib.hid (show decodeSet name l = bytesBy signW l from HDS.out)
    clear HDS HRP
    go_wp2
    go_loopw [8, 9, 10] (fun v i q wr => ∃ (k : Nat) (y : Value), q = y ∧ k ≤ n ∧ i = .int .i64 (k : Int) ∧ Hid (DcRel w2 signW l k v wr)) (fun _ i _ _ => n - (intOf i).toNat)
    case atStart => exact ⟨0, _, rfl, Nat.zero_le _, rfl, Lib.hid ⟨OwnBytes.nil_ _ _, Below.refl _ _⟩⟩
    case round =>
      obtain ⟨k, y0, rfl, hk, rfl, HR⟩ := hrel
      have hB := HR.out.bel.size
      by_cases hlt : k < n
      · have hk2 : (k : Int) < (n : Int) := by omega
        have hk0 : (0 : Int) ≤ (k : Int) := by omega
        have hks : k < s.size := by rw [HZ.out]; omega
        have hkl : k < l.length := by rw [HL.out]; omega
        have hget : s[k] = l[k] := by
          have h := HS.out
          subst h
          rfl
        have HSN := Lib.hid (bytesBy_snoc (f := signW) hkl)
        have HAL := Lib.hid (show (bytesBy signW (l.take k)).length < 1099511627776 by have := bytesBy_len signW (l.take k); rw [List.length_take] at this; omega)
        have HOWN := Lib.hid HR.out.own
        have HBE := Lib.hid HR.out.bel
        obtain ⟨c, hc⟩ : ∃ c, l[k] = c := ⟨_, rfl⟩
        rw [hc] at hget HSN
        obtain ⟨x, hx⟩ : ∃ x : Int, (c.toNat : Int) = x := ⟨_, rfl⟩
        have hgi : ((s[k]).toNat : Int) = x := by rw [hget]; exact hx
        have HX := Lib.hid hx
        have hx0 : 0 ≤ x := by omega
        have hx1 : x ≤ 255 := by have := c.toNat_lt; omega
        clear hc hkl hget hx
        have hsg := (sign_all c).2.2
        clear HR
        by_cases e1 : x < 128
        · have g1 : ¬ 128 ≤ x := by omega
          have HEQ := Lib.hid (show ((signW c : Nat) : Int) = x from (signW_x HX.out).1 (by omega))
          rw [HEQ.out] at hsg HSN
          have HLA := Lib.hid (fun W => rlaid_any _ W hsg)
          clear hsg HEQ
          go_wp2_with fail
          refine (HLA.out _).mono ?_
          rintro e w3 ⟨rfl, hw3⟩
          subst hw3
          go_wp2_with (at_builtin; go_must (refine wpList_pushLaid HOWN.out hB HAL.out rfl (.tmp 53) (.tmp 55) rfl rfl rfl ?_); intro v2 w4 h1 h2; (have H1 := Lib.hid h1; have H2 := Lib.hid h2; clear h1 h2))
          go_roundw
          case rel =>
            refine ⟨k + 1, _, rfl, by omega, by go_num, Lib.hid ⟨?_, HBE.out.grown H2.out hB fun g e => (World.ownsRow.lt HOWN.out g e).1⟩⟩
            rw [HSN.out]
            exact H1.out
          case measure => simp [intOf] <;> omega
        · by_cases e2 : x < 160
          · have g1 : 128 ≤ x := by omega
            have hj0 : 0 ≤ x - 128 := by omega
            have hj1 : x - 128 < 32 := by omega
            have hcn : c.toNat - 128 = (x - 128).toNat := by have := HX.out; omega
            have hEW := (signW_x HX.out).2 ⟨g1, e2⟩
            rw [hcn] at hEW
            have htb := (HBE.out.cell (p := ⟨w.heap.size, (x - 128).toNat, none⟩) hzt).trans (HTB.out (x - 128).toNat (by omega))
            obtain ⟨t, ht⟩ : ∃ t : Int, ((windowsT.getD (x - 128).toNat 0 : Nat) : Int) = t := ⟨_, rfl⟩
            rw [ht] at htb hEW
            have HEW := Lib.hid hEW
            clear ht hEW hcn
            have HEQ := Lib.hid (show ((signW c : Nat) : Int) = t from HEW.out)
            rw [HEQ.out] at hsg HSN
            have HLA := Lib.hid (fun W => rlaid_any _ W hsg)
            clear hsg HEQ
            go_wp2_with fail
            refine (HLA.out _).mono ?_
            rintro e w3 ⟨rfl, hw3⟩
            subst hw3
            go_wp2_with (at_builtin; go_must (refine wpList_pushLaid HOWN.out hB HAL.out rfl (.tmp 53) (.tmp 55) rfl rfl rfl ?_); intro v2 w4 h1 h2; (have H1 := Lib.hid h1; have H2 := Lib.hid h2; clear h1 h2))
            go_roundw
            case rel =>
              refine ⟨k + 1, _, rfl, by omega, by go_num, Lib.hid ⟨?_, HBE.out.grown H2.out hB fun g e => (World.ownsRow.lt HOWN.out g e).1⟩⟩
              rw [HSN.out]
              exact H1.out
            case measure => simp [intOf] <;> omega
          · have g1 : 128 ≤ x := by omega
            have HEQ := Lib.hid (show ((signW c : Nat) : Int) = x from (signW_x HX.out).1 (by omega))
            rw [HEQ.out] at hsg HSN
            have HLA := Lib.hid (fun W => rlaid_any _ W hsg)
            clear hsg HEQ
            go_wp2_with fail
            refine (HLA.out _).mono ?_
            rintro e w3 ⟨rfl, hw3⟩
            subst hw3
            go_wp2_with (at_builtin; go_must (refine wpList_pushLaid HOWN.out hB HAL.out rfl (.tmp 53) (.tmp 55) rfl rfl rfl ?_); intro v2 w4 h1 h2; (have H1 := Lib.hid h1; have H2 := Lib.hid h2; clear h1 h2))
            go_roundw
            case rel =>
              refine ⟨k + 1, _, rfl, by omega, by go_num, Lib.hid ⟨?_, HBE.out.grown H2.out hB fun g e => (World.ownsRow.lt HOWN.out g e).1⟩⟩
              rw [HSN.out]
              exact H1.out
            case measure => simp [intOf] <;> omega
      · obtain rfl : n = k := by omega
        have hst := HR.out.own.str
        have HBE := Lib.hid HR.out.bel
        rw [List.take_of_length_le (by rw [HL.out]; exact Nat.le_refl _)] at hst
        clear HR
        go_wp2
        go_ret2
        exact dec_end HKK.out HDD.out (by decide) (HB2.out.trans (HBE.out.mono HB2.out.size))
end Go.Proofs.YtnpgnohlcphfnaaGreatDoor
