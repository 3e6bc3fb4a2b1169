/- The reference of layer 10: the contracts of Scan and Bare. The reference of layer 10: the contract of Value. Layer 10: the contract of Value. Layer 1: the contract of Hex. Layer 1: the contract of Unhex. -/
import Derived.Deep.QuietTactic
import Derived.IntWalk
import Derived.BigQuiet
import Derived.Test.YtnpgnohlcphfnaaGreatDoorM04
import Derived.Test.YtnpgnohlcphfnaaGreatDoorM02
import Derived.Test.YtnpgnohlcphfnaaGreatDoorM03
import Derived.Test.YtnpgnohlcphfnaaGreatDoorM01
section
namespace Go.Proofs.YtnpgnohlcphfnaaGreatDoor
open Go.RowKit
set_option linter.unusedVariables false

theorem kept_cell {w w' : World} {row : Option Nat} {p : Addr} {v : Value} (h : w.grownBy w' row) (hp : p.block < w.heap.size) (hne : row ≠ some p.block) (hc : w.cell? p = some v) : w'.cell? p = some v := by
  rw [← hc]
  unfold World.cell?
  rw [h.block p.block hp (fun e => hne e.symm)]
set_option maxRecDepth 100000 in
set_option maxHeartbeats 4000000 in
theorem rscan_any (l : List UInt8) (w : World) (hl : l.length ≤ 1000000000) :
    Calls Tryz.prog 72 #[.string (ba l)] w fun e w' => ∃ v, e = .returned v ∧ OwnToks w' w.heap.size v (scanP l) ∧ Below w.heap.size w w' := by
  go_enter Tryz.func72, Tryz.ntmps72
  go_wp2
  go_loopw [0, 3, 4] (fun s v b wr => ∃ (r : List UInt8) (acc : List Tok) (y : Value), b = y ∧ s = .string (ba r) ∧ Hid (ScanRel w l r acc v wr)) (fun s _ _ _ => (strOf s).size)
  case atStart => exact ⟨l, [], _, rfl, rfl, OwnToks.nil_ _ _, Below.refl _ _, rfl, by simp⟩
  case round =>
    obtain ⟨r, acc, y, rfl, rfl, HR⟩ := hrel
    have hsz := HR.out.2.1.size
    cases r with
    | nil =>
      have g1 : (ba ([] : List UInt8)).toList.isEmpty = true := by rw [ba_toList]; rfl
      go_wp2
      go_ret
      refine ⟨_, rfl, ?_, HR.out.2.1⟩
      have h := HR.out.2.2.1
      rw [scanP_nil, List.append_nil] at h
      rw [← h]
      exact HR.out.1
    | cons c r =>
      have g1 : (ba (c :: r)).toList.isEmpty = false := by rw [ba_toList]; rfl
      have hlen := HR.out.2.2.2
      have hlen2 : (c :: r).length ≤ l.length := by omega
      have HFR := Lib.hid (rfront_any c r wr (by omega))
      have HNX := Lib.hid (scanP_cons (l := c :: r) (by simp))
      have HLE := Lib.hid (frontP_len (l := c :: r) (by simp))
      have HK := Lib.hid (frontP_kind (c :: r))
      have HDR := Lib.hid (fun m => ba_drop (c :: r) m)
      unfold FrontPost at HFR
      obtain ⟨⟨k, m⟩, hf⟩ : ∃ v, frontP (c :: r) = v := ⟨_, rfl⟩
      rw [hf] at HNX HLE HK
      simp only [hf] at HFR
      clear hf
      have HTL := Lib.hid (show ((c :: r).take m).length = m by rw [List.length_take]; exact Nat.min_eq_left HLE.out.2)
      obtain ⟨t, ht⟩ : ∃ t, (c :: r).take m = t := ⟨_, rfl⟩
      obtain ⟨d, hd⟩ : ∃ d, (c :: r).drop m = d := ⟨_, rfl⟩
      have HDL := Lib.hid (show d.length < (c :: r).length by
        have h1 := HLE.out.1
        have h2 := HLE.out.2
        rw [← hd, List.length_drop]
        have h3 : (c :: r).length = r.length + 1 := rfl
        show (c :: r).length - m < _
        have h4 : 0 < m := h1
        omega)
      have HNX2 := Lib.hid (show scanP (c :: r) = ⟨k, t⟩ :: scanP d by rw [HNX.out, ← ht, ← hd])
      have hcut := HDR.out m
      rw [hd] at hcut
      rw [ht] at HTL
      simp only [ht] at HFR
      have hts : (ba t).size = m := by rw [ba_size]; exact HTL.out
      have hmz : m ≤ (ba (c :: r)).size := by rw [ba_size]; exact HLE.out.2
      have hmz2 : (ba t).size ≤ (ba (c :: r)).size := by rw [hts]; exact hmz
      have hmz3 : ((ba t).size : Int) ≤ ((ba (c :: r)).size : Int) := by omega
      have HCUT := Lib.hid hcut
      have HTS := Lib.hid hts
      clear ht hd HNX hlen2 HDR hcut hts
      go_wp2_with fail
      refine HFR.out.mono ?_
      rintro e w1 ⟨rfl, hb1⟩
      have HB1 := Lib.hid hb1
      have hsz1 := hb1.size
      clear HFR hb1
      have HOWN0 := Lib.hid (HR.out.1.below HB1.out)
      have hu3 : ∀ g, u3.ownBlock = some g → g < wr.heap.size := fun g e => (HR.out.1.row.lt g e).2
      have HU3 := Lib.hid hu3
      clear hu3
      have HB2 := Lib.hid (show Below w.heap.size w (w1.alloc (.cells #[.int .i64 k, .string (ba t)] 85)) from (HR.out.2.1.trans (HB1.out.mono hsz)).alloc (by omega) _)
      have HOWN : Hid (OwnToks (w1.alloc (.cells #[.int .i64 k, .string (ba t)] 85)) w.heap.size u3 acc) := Lib.hid (HR.out.1.below (HB1.out.alloc hsz1 _))
      have hB : w.heap.size ≤ (w1.alloc (.cells #[.int .i64 k, .string (ba t)] 85)).heap.size := by simp; omega
      have HTK : Hid (TokOk (⟨k, t⟩ : Tok)) := Lib.hid (by have h1 := HK.out.1; have h2 := HK.out.2; unfold TokOk; exact ⟨by show _ ≤ k; have : (0 : Int) ≤ k := h1; omega, by show k ≤ _; have : k ≤ (7 : Int) := h2; omega⟩)
      have HAL := Lib.hid (show acc.length ≤ 1000000000 by omega)
      have HTX := Lib.hid (show ∀ w2, (w1.alloc (.cells #[.int .i64 k, .string (ba t)] 85)).grownBy w2 u3.ownBlock → w2.cell? ⟨w1.heap.size, 1, none⟩ = some (.string (ba t)) from fun w2 h =>
        kept_cell h (by simp) (fun e => by have : w1.heap.size < wr.heap.size := HU3.out _ e; omega) (by simp))
      go_wp2_with (at_builtin; go_must (refine wpList_pushTok (W := (w1.alloc (.cells #[.int .i64 k, .string (ba t)] 85))) HOWN.out hB HTK.out HAL.out rfl (.tmp 9) (.tmp 11) 1 rfl rfl (by show Value.slice (some ⟨w1.heap.size + 1, 0, none⟩) 1 1 = _; simp) ?_); intro v2 w2 h1 h2; (have H1 := Lib.hid h1; have H2 := Lib.hid h2; clear h1 h2); (have htx := HTX.out _ H2.out))
      go_roundw
      case rel =>
        refine ⟨d, acc ++ [⟨k, t⟩], _, rfl, by rw [HTS.out, HCUT.out], H1.out, HB2.out.grown H2.out hB fun g e => (HOWN.out.row.lt g e).1, ?_, ?_⟩
        · rw [List.append_assoc, ← HR.out.2.2.1, HNX2.out]; rfl
        · have := HDL.out
          rw [List.length_append]
          show acc.length + 1 + _ ≤ _
          omega
      case measure =>
        rw [HTS.out, HCUT.out]
        show (ba d).size < (ba (c :: r)).size
        rw [ba_size, ba_size]
        exact HDL.out
set_option maxRecDepth 100000 in
set_option maxHeartbeats 4000000 in
theorem rbare_any (ts : List Tok) (A : Option Addr) (n c : Nat) (w : World) (hT : Toks w w.heap.size A n ts) (hn : n ≤ 1000000000) :
    Calls Tryz.prog 71 #[.slice A n c] w fun e w' => ∃ v, e = .returned v ∧ OwnToks w' w.heap.size v (bareP ts) ∧ Below w.heap.size w w' := by
  go_enter Tryz.func71, Tryz.ntmps71
  have HT := Lib.hid hT
  obtain rfl : n = ts.length := hT.1
  obtain ⟨n, hn2⟩ : ∃ n, ts.length = n := ⟨_, rfl⟩
  have HN := Lib.hid hn2
  rw [hn2] at hn ⊢
  clear hT hn2
  go_wp2
  go_loopw [3, 4] (fun v i wr => ∃ k : Nat, k ≤ n ∧ i = .int .i64 (k : Int) ∧ Hid (BareRel w ts k v wr)) (fun _ i _ => n - (intOf i).toNat)
  case atStart => exact ⟨0, Nat.zero_le _, rfl, OwnToks.nil_ _ _, Below.refl _ _⟩
  case round =>
    obtain ⟨k, hk, rfl, HR⟩ := hrel
    have hsz := HR.out.2.size
    by_cases hlt : k < n
    · have hk2 : (k : Int) < n := by omega
      have hkl : k < ts.length := by rw [HN.out]; exact hlt
      obtain ⟨ad, rfl, hbl, c0, c1, c2⟩ := (HT.out.below HR.out.2).2 k hkl
      have HP := Lib.hid (bare_step ts k hkl)
      have hal : (bareP (ts.take k)).length ≤ 1000000000 := by
        have h1 : (bareP (ts.take k)).length ≤ (ts.take k).length := List.length_filter_le _ _
        rw [List.length_take] at h1
        omega
      have HAL := Lib.hid hal
      obtain ⟨t, ht⟩ : ∃ t, ts[k] = t := ⟨_, rfl⟩
      rw [ht] at c0 c1 c2 HP
      have HC2 := Lib.hid c2
      clear ht hal c2
      have HOWN := Lib.hid HR.out.1
      have HBEL := Lib.hid HR.out.2
      by_cases e6 : t.kind = 6
      · have g6 : (t.kind != 6) = false := by simp [e6]
        have HD := Lib.hid (show bareP [t] = [] by unfold bareP keepB; simp [e6])
        clear e6
        go_wp2
        go_roundw
        case rel =>
          refine ⟨k + 1, by omega, by go_num, ?_, HBEL.out⟩
          rw [HP.out, HD.out, List.append_nil]
          exact HOWN.out
        case measure => simp [intOf] <;> omega
      have g6 : (t.kind != 6) = true := by simpa using e6
      by_cases e3 : t.kind = 3
      · have g3 : (t.kind != 3) = false := by simp [e3]
        have HD := Lib.hid (show bareP [t] = [] by unfold bareP keepB; simp [e3])
        clear e3 e6
        go_wp2
        go_roundw
        case rel =>
          refine ⟨k + 1, by omega, by go_num, ?_, HBEL.out⟩
          rw [HP.out, HD.out, List.append_nil]
          exact HOWN.out
        case measure => simp [intOf] <;> omega
      have g3 : (t.kind != 3) = true := by simpa using e3
      have HD := Lib.hid (show bareP [t] = [t] by unfold bareP keepB; simp [e3, e6])
      clear e3 e6
      go_wp2_with (at_builtin; go_must (refine wpList_pushTok (W := wr) HOWN.out hsz HC2.out HAL.out rfl (.tmp 25) (.tmp 30) 1 rfl rfl rfl ?_); intro v2 w2 h1 h2; (have H1 := Lib.hid h1; have H2 := Lib.hid h2; clear h1 h2))
      go_roundw
      case rel =>
        refine ⟨k + 1, by omega, by go_num, ?_, HBEL.out.grown H2.out hsz fun g e => (HOWN.out.row.lt g e).1⟩
        rw [HP.out, HD.out]
        exact H1.out
      case measure => simp [intOf] <;> omega
    · obtain rfl : k = n := by omega
      go_wp2
      go_ret
      refine ⟨_, rfl, ?_, HR.out.2⟩
      have := HR.out.1
      rw [List.take_of_length_le (by rw [HN.out]; exact Nat.le_refl _)] at this
      exact this
end Go.Proofs.YtnpgnohlcphfnaaGreatDoor
end
section
namespace Go.Proofs.YtnpgnohlcphfnaaGreatDoor
open Go.RowKit
set_option linter.unusedVariables false

theorem unescP_cons (c : UInt8) (r : List UInt8) : unescP (c :: r) = if c = 92 then r.take 1 ++ unescP (r.drop 1) else if c = 10 ∨ c = 13 then unescP r else c :: unescP r := by
  cases r with
  | nil =>
    unfold unescP
    have h : unescP [] = [] := by unfold unescP; rfl
    show (if c = 92 then [] else if c = 10 ∨ c = 13 then [] else [c]) = if c = 92 then unescP [] else if c = 10 ∨ c = 13 then unescP [] else c :: unescP []
    rw [h]
  | cons x t =>
    conv => lhs; unfold unescP
    rfl
theorem inner_eq (l : List UInt8) (h : 2 ≤ l.length) : (ba l).extract 1 ((ba l).size - 1) = ba ((l.drop 1).take (l.length - 2)) := by
  rw [ba_size, ba_cut, List.drop_take]
  rfl
def RVRel (w : World) (q : List UInt8) (k : Nat) (v : Value) (wr : World) : Prop := ∃ acc, OwnBytes wr w.heap.size v acc ∧ Below w.heap.size w wr ∧ acc ++ unescP (q.drop k) = unescP q ∧ acc.length ≤ k
theorem str_fin {w w' : World} {l : List UInt8} {t : ByteArray} (ht : t = ba l) (hb : Below w.heap.size w w') : StrB w l (.returned (.string t)) w' := by
  subst ht
  exact ⟨rfl, hb⟩
theorem rvalue_short (t : Tok) (w : World) (h : (t.kind ≠ 2 ∧ t.kind ≠ 3) ∨ t.text.length < 2) :
    Calls Tryz.prog 110 #[.agg #[.int .i64 t.kind, .string (ba t.text)]] w (StrB w (meanP t)) := by
  have HM := Lib.hid (show meanP t = t.text by unfold meanP; rw [if_pos h])
  by_cases e2 : t.kind ≠ 2 ∧ t.kind ≠ 3
  · have g2 : (t.kind != 2) = true := by simpa using e2.1
    have g3 : (t.kind != 3) = true := by simpa using e2.2
    clear e2 h
    go_enter Tryz.func110, Tryz.ntmps110
    go_wp2
    go_ret
    exact str_fin (by rw [HM.out]) ((Below.refl _ _).alloc (Nat.le_refl _) _)
  have e1 : t.text.length < 2 := h.resolve_left e2
  have hsz : ((ba t.text).size : Int) < 2 := by rw [ba_size]; omega
  by_cases e3 : t.kind = 2
  · have g2 : (t.kind != 2) = false := by simp [e3]
    clear e2 e1 e3 h
    go_enter Tryz.func110, Tryz.ntmps110
    go_wp2
    go_ret
    exact str_fin (by rw [HM.out]) ((Below.refl _ _).alloc (Nat.le_refl _) _)
  · have g2 : (t.kind != 2) = true := by simpa using e3
    have e4 : t.kind = 3 := by
      by_cases h : t.kind = 3
      · exact h
      · exact absurd ⟨e3, h⟩ e2
    have g3 : (t.kind != 3) = false := by simp [e4]
    clear e2 e1 e3 e4 h
    go_enter Tryz.func110, Tryz.ntmps110
    go_wp2
    go_ret
    exact str_fin (by rw [HM.out]) ((Below.refl _ _).alloc (Nat.le_refl _) _)
set_option maxRecDepth 100000 in
set_option maxHeartbeats 4000000 in
theorem rvalue_long (t : Tok) (w : World) (hl : t.text.length ≤ 1000000000) (h : t.kind = 2 ∨ t.kind = 3) (h2 : 2 ≤ t.text.length) :
    Calls Tryz.prog 110 #[.agg #[.int .i64 t.kind, .string (ba t.text)]] w (StrB w (meanP t)) := by
  have HM := Lib.hid (show meanP t = unescP ((t.text.drop 1).take (t.text.length - 2)) by
    unfold meanP
    rw [if_neg (fun hh => by rcases hh with hh | hh; exact h.elim hh.1 hh.2; omega)])
  have HQ := Lib.hid (inner_eq t.text h2)
  obtain ⟨q, hq⟩ : ∃ q, (t.text.drop 1).take (t.text.length - 2) = q := ⟨_, rfl⟩
  have hqn : q.length ≤ 1000000000 := by rw [← hq, List.length_take, List.length_drop]; omega
  rw [hq] at HQ HM
  clear hq
  have hsz : ¬ ((ba t.text).size : Int) < 2 := by rw [ba_size]; omega
  have hsz2 : (2 : Int) ≤ ((ba t.text).size : Int) := by omega
  have hsz3 : ((ba t.text).size : Int) ≤ 1000000000 := by rw [ba_size]; omega
  have g : (t.kind = 2 ∧ (t.kind != 2) = false) ∨ ((t.kind != 2) = true ∧ (t.kind != 3) = false) := by
    rcases h with h | h
    · exact .inl ⟨h, by simp [h]⟩
    · exact .inr ⟨by simp [h], by simp [h]⟩
  have hne0 : (t.kind != 2) = false ∨ ((t.kind != 2) = true ∧ (t.kind != 3) = false) := g.imp And.right id
  clear h h2 hl g
  obtain ⟨s0, hs0⟩ : ∃ s, ba t.text = s := ⟨_, rfl⟩
  rw [hs0] at HQ hsz hsz2 hsz3
  rw [hs0]
  clear hs0
  rcases hne0 with g2 | ⟨g2, g3⟩
  all_goals
    go_enter Tryz.func110, Tryz.ntmps110
    go_wp2
    rw [HQ.out]
    obtain ⟨s, hs⟩ : ∃ s, ba q = s := ⟨_, rfl⟩
    obtain ⟨n, hn⟩ : ∃ n, q.length = n := ⟨_, rfl⟩
    have HS := Lib.hid hs
    have HL := Lib.hid hn
    have HZ := Lib.hid (show s.size = n by rw [← hs, ba_size, hn])
    have hszs : (s.size : Int) = n := by rw [HZ.out]
    rw [hn] at hqn
    rw [hs]
    clear hs hn
    go_loopw [4, 5] (fun v i wr => ∃ k : Nat, k ≤ n + 1 ∧ i = .int .i64 (k : Int) ∧ Hid (RVRel w q k v wr)) (fun _ i _ => n + 1 - (intOf i).toNat)
    case atStart => exact ⟨0, Nat.zero_le _, rfl, Lib.hid ⟨[], OwnBytes.nil_ _ _, (Below.refl _ _).alloc (Nat.le_refl _) _, rfl, Nat.le_refl _⟩⟩
    case round =>
      obtain ⟨k, hk, rfl, HR⟩ := hrel
      obtain ⟨acc, hown, hbel, heq, hal⟩ := HR.out
      have hB := hbel.size
      have HOWN := Lib.hid hown
      have HBEL := Lib.hid hbel
      have HAL := Lib.hid (show acc.length < 1099511627776 by omega)
      have HAK := Lib.hid hal
      have HEQ0 := Lib.hid heq
      clear HR hown hbel hal heq
      by_cases hlt : k < n
      · have hk2 : (k : Int) < (n : Int) := by omega
        have hk0 : (0 : Int) ≤ (k : Int) := by omega
        have hks : k < s.size := by rw [HZ.out]; omega
        have hkl : k < q.length := by rw [HL.out]; omega
        have hget : s[k] = q[k] := by
          have h := HS.out
          subst h
          rfl
        have heq := HEQ0.out
        rw [List.drop_eq_getElem_cons hkl, unescP_cons] at heq
        have HEQ := Lib.hid heq
        clear heq
        obtain ⟨c, hc⟩ : ∃ c, q[k] = c := ⟨_, rfl⟩
        rw [hc] at hget HEQ
        obtain ⟨x, hx⟩ : ∃ x : Int, (c.toNat : Int) = x := ⟨_, rfl⟩
        have hgi : ((s[k]).toNat : Int) = x := by rw [hget]; exact hx
        have HX := Lib.hid hx
        clear hc hkl hget hx
        by_cases e1 : x = 92
        · have g1 : (x == 92) = true := by simpa using e1
          have HE2 := HEQ.out
          rw [if_pos (u8_int_eq.1 (by rw [HX.out]; exact e1)), List.drop_drop] at HE2
          have HE := Lib.hid HE2
          clear e1 HE2
          by_cases hlt2 : k + 1 < n
          · have hk3 : (k : Int) + 1 < (n : Int) := by omega
            have hks2 : k + 1 < s.size := by rw [HZ.out]; omega
            have hkl2 : k + 1 < q.length := by rw [HL.out]; omega
            have hget2 : s[k + 1] = q[k + 1] := by
              have h := HS.out
              subst h
              rfl
            have HT := Lib.hid (show (q.drop (k + 1)).take 1 = [q[k + 1]] by rw [List.drop_eq_getElem_cons hkl2]; rfl)
            obtain ⟨d, hd⟩ : ∃ c, q[k + 1] = c := ⟨_, rfl⟩
            rw [hd] at hget2 HT
            obtain ⟨y, hy⟩ : ∃ x : Int, (d.toNat : Int) = x := ⟨_, rfl⟩
            have hgi2 : ((s[k + 1]).toNat : Int) = y := by rw [hget2]; exact hy
            have HY := Lib.hid hy.symm
            clear hd hkl2 hget2 hy
            go_wp2_with (at_builtin; go_must (refine wpList_pushByte (y := d) HOWN.out hB HY.out HAL.out rfl (.tmp 45) (.tmp 49) 1 rfl rfl rfl ?_); intro v2 w2 h1 h2 h3; (have H1 := Lib.hid h1; have H2 := Lib.hid h2; clear h1 h2 h3))
            go_roundw
            case rel =>
              refine ⟨k + 2, by omega, by go_num, Lib.hid ⟨_, H1.out, HBEL.out.grown H2.out hB fun g e => (World.ownsRow.lt HOWN.out g e).1, ?_, ?_⟩⟩
              · have := HE.out
                rw [HT.out] at this
                rw [List.append_assoc]
                exact this
              · have := HAK.out
                rw [List.length_append]
                show acc.length + 1 ≤ k + 2
                omega
            case measure => simp [intOf] <;> omega
          · have hk3 : ¬ (k : Int) + 1 < (n : Int) := by omega
            go_wp2
            go_roundw
            case rel =>
              refine ⟨k + 2, by omega, by go_num, Lib.hid ⟨acc, HOWN.out, HBEL.out, ?_, by have := HAK.out; omega⟩⟩
              have := HE.out
              rw [List.drop_of_length_le (show q.length ≤ k + 1 by rw [HL.out]; omega), show k + 1 + 1 = k + 2 by omega] at this
              exact this
            case measure => simp [intOf] <;> omega
        have g1 : (x == 92) = false := by simpa using e1
        have HE2 := HEQ.out
        rw [if_neg (fun h => e1 (by rw [← HX.out, h]; rfl))] at HE2
        clear e1 HEQ
        by_cases e2 : x = 10 ∨ x = 13
        · rw [if_pos (e2.imp (fun h => u8_int_eq.1 (by rw [HX.out]; exact h)) (fun h => u8_int_eq.1 (by rw [HX.out]; exact h)))] at HE2
          have HE := Lib.hid HE2
          have g4 : (x != 10) = false ∨ ((x != 10) = true ∧ (x != 13) = false) := by
            rcases e2 with h | h
            · exact .inl (by simp [h])
            · exact .inr ⟨by simp [h], by simp [h]⟩
          clear e2 HE2
          rcases g4 with g4 | ⟨g4, g5⟩
          all_goals
            go_wp2
            go_roundw
            case rel => exact ⟨k + 1, by omega, by go_num, Lib.hid ⟨acc, HOWN.out, HBEL.out, HE.out, by have := HAK.out; omega⟩⟩
            case measure => simp [intOf] <;> omega
        · rw [if_neg (fun h => e2 (h.imp (fun h => by rw [← HX.out, h]; rfl) (fun h => by rw [← HX.out, h]; rfl)))] at HE2
          have HE := Lib.hid HE2
          have g4 : (x != 10) = true := by
            have : ¬ x = 10 := fun h => e2 (.inl h)
            simpa using this
          have g5 : (x != 13) = true := by
            have : ¬ x = 13 := fun h => e2 (.inr h)
            simpa using this
          clear e2 HE2
          go_wp2_with (at_builtin; go_must (refine wpList_pushByte (y := c) HOWN.out hB HX.out.symm HAL.out rfl (.tmp 61) (.tmp 65) 1 rfl rfl rfl ?_); intro v2 w2 h1 h2 h3; (have H1 := Lib.hid h1; have H2 := Lib.hid h2; clear h1 h2 h3))
          go_roundw
          case rel =>
            refine ⟨k + 1, by omega, by go_num, Lib.hid ⟨_, H1.out, HBEL.out.grown H2.out hB fun g e => (World.ownsRow.lt HOWN.out g e).1, ?_, ?_⟩⟩
            · have := HE.out
              rw [List.append_assoc]
              exact this
            · have := HAK.out
              rw [List.length_append]
              show acc.length + 1 ≤ k + 1
              omega
          case measure => simp [intOf] <;> omega
      · have hk2 : ¬ (k : Int) < (n : Int) := by omega
        have hacc : acc = unescP q := by
          have := HEQ0.out
          rw [List.drop_of_length_le (by rw [HL.out]; omega)] at this
          have h0 : unescP [] = [] := by unfold unescP; rfl
          rw [h0, List.append_nil] at this
          exact this
        have hconv := HOWN.out.str
        have HACC := Lib.hid hacc
        clear hacc
        go_wp2
        go_ret
        exact str_fin (by rw [HACC.out, HM.out]) HBEL.out
theorem rvalue_any (t : Tok) (w : World) (hl : t.text.length ≤ 1000000000) :
    Calls Tryz.prog 110 #[.agg #[.int .i64 t.kind, .string (ba t.text)]] w (StrB w (meanP t)) := by
  by_cases h : (t.kind ≠ 2 ∧ t.kind ≠ 3) ∨ t.text.length < 2
  · exact rvalue_short t w h
  · refine rvalue_long t w hl ?_ (by omega)
    by_cases h2 : t.kind = 2
    · exact .inl h2
    · by_cases h3 : t.kind = 3
      · exact .inr h3
      · exact absurd (.inl ⟨h2, h3⟩) h
end Go.Proofs.YtnpgnohlcphfnaaGreatDoor
end
section
namespace Go.Proofs.YtnpgnohlcphfnaaGreatDoor
open Go.RowKit
set_option linter.unusedVariables false

theorem KeptA.row {w w' : World} {b k0 : Nat} {l : List UInt8} (h : KeptA w w' b k0) (hb : k0 ≠ b) (hr : ByteRow w k0 l) : ByteRow w' k0 l := hr.kept (h k0 (Nat.le_refl _) hb)
/-- The state of the loop: k bytes are read, the flag is f. -/
structure VRel (w : World) (b : Nat) (q : List UInt8) (k : Nat) (f : Bool) (wr : World) : Prop where
  ex : ∃ acc, BldA wr (b + 1) (b + 1 + 1) acc ∧ acc ++ unescF f (q.drop k) = unescP q ∧ acc.length ≤ k
  row : ByteRow wr (b + 1 + 1) q
  bel : Below b w wr
theorem tvalue_short (t : Tok) (w : World) (h : (t.kind ≠ 2 ∧ t.kind ≠ 3) ∨ t.text.length < 2) :
    Calls Tryz.prog 101 #[.agg #[.int .i64 t.kind, .string (ba t.text)]] w (StrB w (meanP t)) := by
  have HM := Lib.hid (show meanP t = t.text by unfold meanP; rw [if_pos h])
  by_cases e2 : t.kind ≠ 2 ∧ t.kind ≠ 3
  · have g2 : (t.kind != 2) = true := by simpa using e2.1
    have g3 : (t.kind != 3) = true := by simpa using e2.2
    clear e2 h
    go_enter Tryz.func101, Tryz.ntmps101
    go_wp2
    go_ret
    exact str_fin (by rw [HM.out]) ((Below.refl _ _).alloc (Nat.le_refl _) _)
  have e1 : t.text.length < 2 := h.resolve_left e2
  have hsz : ((ba t.text).size : Int) < 2 := by rw [ba_size]; omega
  by_cases e3 : t.kind = 2
  · have g2 : (t.kind != 2) = false := by simp [e3]
    clear e2 e1 e3 h
    go_enter Tryz.func101, Tryz.ntmps101
    go_wp2
    go_ret
    exact str_fin (by rw [HM.out]) ((Below.refl _ _).alloc (Nat.le_refl _) _)
  · have g2 : (t.kind != 2) = true := by simpa using e3
    have e4 : t.kind = 3 := by
      by_cases h : t.kind = 3
      · exact h
      · exact absurd ⟨e3, h⟩ e2
    have g3 : (t.kind != 3) = false := by simp [e4]
    clear e2 e1 e3 e4 h
    go_enter Tryz.func101, Tryz.ntmps101
    go_wp2
    go_ret
    exact str_fin (by rw [HM.out]) ((Below.refl _ _).alloc (Nat.le_refl _) _)
set_option maxRecDepth 100000 in
set_option maxHeartbeats 4000000 in
theorem tvalue_long (t : Tok) (w : World) (hl : t.text.length ≤ 1000000000) (h : t.kind = 2 ∨ t.kind = 3) (h2 : 2 ≤ t.text.length) :
    Calls Tryz.prog 101 #[.agg #[.int .i64 t.kind, .string (ba t.text)]] w (StrB w (meanP t)) := by
  have HM := Lib.hid (show meanP t = unescP ((t.text.drop 1).take (t.text.length - 2)) by
    unfold meanP
    rw [if_neg (fun hh => by rcases hh with hh | hh; exact h.elim hh.1 hh.2; omega)])
  have HQ := Lib.hid (inner_eq t.text h2)
  obtain ⟨q, hq⟩ : ∃ q, (t.text.drop 1).take (t.text.length - 2) = q := ⟨_, rfl⟩
  have hqn : q.length ≤ 1000000000 := by rw [← hq, List.length_take, List.length_drop]; omega
  have hqs : (ba t.text).size - 1 - 1 = q.length := by rw [← hq, List.length_take, List.length_drop, ba_size]; omega
  rw [hq] at HQ HM
  clear hq
  have hsz : ¬ ((ba t.text).size : Int) < 2 := by rw [ba_size]; omega
  have hsz2 : (2 : Int) ≤ ((ba t.text).size : Int) := by omega
  have hsz3 : ((ba t.text).size : Int) ≤ 1000000000 := by rw [ba_size]; omega
  have g : (t.kind = 2 ∧ (t.kind != 2) = false) ∨ ((t.kind != 2) = true ∧ (t.kind != 3) = false) := by
    rcases h with h | h
    · exact .inl ⟨h, by simp [h]⟩
    · exact .inr ⟨by simp [h], by simp [h]⟩
  have hne0 : (t.kind != 2) = false ∨ ((t.kind != 2) = true ∧ (t.kind != 3) = false) := g.imp And.right id
  clear h h2 hl g
  have hbox := Lib.hid (bld_new (w.alloc (.cells #[.int .i64 t.kind, .string (ba t.text)] 85)))
  obtain ⟨s0, hs0⟩ : ∃ s, ba t.text = s := ⟨_, rfl⟩
  rw [hs0] at HQ hsz hsz2 hsz3 hqs
  rw [hs0]
  obtain ⟨n, hn⟩ : ∃ n, q.length = n := ⟨_, rfl⟩
  have HL := Lib.hid hn
  have HQS := Lib.hid (hqs.trans hn)
  rw [hn] at hqn
  have hcv := fun (W : World) (S : ByteArray) => run_bytes_of_string (P := Tryz.prog) W 9 59 5 S Tryz.underlying9 Tryz.underlying59 Tryz.underlying5
  have HROW := Lib.hid (fun (W : World) (cap m : Nat) (hm : q.length ≤ m) => ByteRow.of_string W q cap 5 m hm)
  clear hs0 hn hqs hbox
  rcases hne0 with g2 | ⟨g2, g3⟩
  all_goals
    go_enter Tryz.func101, Tryz.ntmps101
    go_wp2
    rw [HQ.out, HQS.out]
    obtain ⟨C, hC⟩ : ∃ C, grownCap ((w.alloc (.cells #[.int .i64 t.kind, .string s0] 85)).alloc (.cells #[.pointer none, .slice none 0 0] 73)) n 0 5 = C := ⟨_, rfl⟩
    have HCN := Lib.hid (show q.length ≤ (bytesRow (ba q) C).size by rw [bytesRow_size (ba q) C (by rw [← hC, ba_size, HL.out]; exact grownCap_ge _ _ _ _), ← hC, HL.out]; exact grownCap_ge _ _ _ _)
    rw [hC]
    clear hC
    go_loopw [5, 32] (fun f i wr => ∃ (k : Nat) (fl : Bool), k ≤ n ∧ i = .int .i64 (k : Int) ∧ f = .bool fl ∧ Hid (VRel w w.heap.size q k fl wr)) (fun _ i _ => n - (intOf i).toNat)
    case atStart =>
      refine ⟨0, false, Nat.zero_le _, rfl, rfl, Lib.hid ⟨⟨[], ?_, ?_, Nat.le_refl _⟩, ?_, ?_⟩⟩
      · refine BldA.new ?_ (by omega) (by simp)
        have h1 := (MapKept.heap_alloc (w.alloc (.cells #[.int .i64 t.kind, .string s0] 85)) (.cells #[.pointer none, .slice none 0 0] 73)).1
        simp only [World.size_alloc] at h1
        exact (heap_alloc_old _ _ (by simp)).trans h1
      · exact (unescF_eq q)
      · have := HROW.out ((w.alloc (.cells #[.int .i64 t.kind, .string s0] 85)).alloc (.cells #[.pointer none, .slice none 0 0] 73)) C _ HCN.out
        simp only [World.size_alloc] at this
        exact this
      · exact ((((Below.refl _ _).alloc (Nat.le_refl _) _).alloc (by simp) _).alloc (by simp; omega) _).drew
    case round =>
      obtain ⟨k, fl, hk, rfl, rfl, HR⟩ := hrel
      obtain ⟨⟨acc, hbld, heq, hal⟩, hrow, hbel⟩ := HR.out
      have hB := hbel.size
      have HBLD := Lib.hid hbld
      have HROWR := Lib.hid hrow
      have HBEL := Lib.hid hbel
      have HAK := Lib.hid hal
      have hacl : acc.length ≤ 1000000000 := by omega
      have HEQ0 := Lib.hid heq
      clear HR hbld hrow hbel hal heq
      by_cases hlt : k < n
      · have hk2 : (k : Int) < (n : Int) := by omega
        have hk0 : (0 : Int) ≤ (k : Int) := by omega
        have hkl : k < q.length := by rw [HL.out]; omega
        have hcell := HROWR.out.cell hkl
        have heq := HEQ0.out
        rw [List.drop_eq_getElem_cons hkl] at heq
        have HEQ := Lib.hid heq
        clear heq
        obtain ⟨c, hc⟩ : ∃ c, q[k] = c := ⟨_, rfl⟩
        rw [hc] at hcell HEQ
        obtain ⟨x, hx⟩ : ∃ x : Int, (c.toNat : Int) = x := ⟨_, rfl⟩
        have HX := Lib.hid hx
        have hwr : ∀ (A B : Nat) (hb : BldA wr A B acc), acc.length + 1 ≤ 140737488355328 → Calls Tryz.prog 76 #[.pointer (some ⟨A, 0, none⟩), .int .u8 x] wr (WroteA wr A B (acc ++ [c]) .nilIface) := fun A B hb hl => by
          rw [← hx]
          exact write_byteA A B acc c wr hb hl
        have HWR := Lib.hid (hwr _ _ HBLD.out (by omega))
        rw [hx] at hcell
        clear hc hkl hx hwr
        cases fl
        · by_cases e1 : x = 92
          · have g1 : (x == 92) = true := by simpa using e1
            have HE := Lib.hid (show acc ++ unescF true (q.drop (k + 1)) = unescP q by
              have h := HEQ.out
              unfold unescF at h
              rw [if_pos (u8_int_eq.1 (by rw [HX.out]; exact e1))] at h
              exact h)
            clear e1
            go_wp2
            go_roundw
            case rel => exact ⟨k + 1, true, by omega, by go_num, rfl, Lib.hid ⟨⟨acc, HBLD.out, HE.out, by have := HAK.out; omega⟩, HROWR.out, HBEL.out⟩⟩
            case measure => simp [intOf] <;> omega
          have g1 : (x == 92) = false := by simpa using e1
          have HC := Lib.hid (show ¬ c = 92 from fun h => e1 (by rw [← HX.out, h]; rfl))
          clear e1
          by_cases e2 : x = 10 ∨ x = 13
          · have HE := Lib.hid (show acc ++ unescF false (q.drop (k + 1)) = unescP q by
              have h := HEQ.out
              unfold unescF at h
              rw [if_neg HC.out, if_pos (e2.imp (fun h => u8_int_eq.1 (by rw [HX.out]; exact h)) (fun h => u8_int_eq.1 (by rw [HX.out]; exact h)))] at h
              exact h)
            have g4 : (x != 10) = false ∨ ((x != 10) = true ∧ (x != 13) = false) := by
              rcases e2 with h | h
              · exact .inl (by simp [h])
              · exact .inr ⟨by simp [h], by simp [h]⟩
            clear e2
            rcases g4 with g4 | ⟨g4, g5⟩
            all_goals
              go_wp2
              go_roundw
              case rel => exact ⟨k + 1, false, by omega, by go_num, rfl, Lib.hid ⟨⟨acc, HBLD.out, HE.out, by have := HAK.out; omega⟩, HROWR.out, HBEL.out⟩⟩
              case measure => simp [intOf] <;> omega
          have HE := Lib.hid (show acc ++ c :: unescF false (q.drop (k + 1)) = unescP q by
            have h := HEQ.out
            unfold unescF at h
            rw [if_neg HC.out, if_neg (fun h => e2 (h.imp (fun h => by rw [← HX.out, h]; rfl) (fun h => by rw [← HX.out, h]; rfl)))] at h
            exact h)
          have g4 : (x != 10) = true := by
            have : ¬ x = 10 := fun h => e2 (.inl h)
            simpa using this
          have g5 : (x != 13) = true := by
            have : ¬ x = 13 := fun h => e2 (.inr h)
            simpa using this
          clear e2
          go_wp2_with fail
          refine HWR.out.mono ?_
          rintro e w2 ⟨rfl, hA⟩
          have HA := Lib.hid hA
          clear hA
          go_wp2
          go_roundw
          case rel =>
            refine ⟨k + 1, false, by omega, by go_num, rfl, Lib.hid ⟨⟨_, HA.out.1, ?_, ?_⟩, HA.out.2.2.row (by omega) HROWR.out, HBEL.out.trans (HA.out.2.1.mono (by omega))⟩⟩
            · have := HE.out
              rw [List.append_assoc]
              exact this
            · have := HAK.out
              rw [List.length_append]
              show acc.length + 1 ≤ k + 1
              omega
          case measure => simp [intOf] <;> omega
        · have HE := Lib.hid (show acc ++ c :: unescF false (q.drop (k + 1)) = unescP q by
            have h := HEQ.out
            unfold unescF at h
            exact h)
          go_wp2_with fail
          refine HWR.out.mono ?_
          rintro e w2 ⟨rfl, hA⟩
          have HA := Lib.hid hA
          clear hA
          go_wp2
          go_roundw
          case rel =>
            refine ⟨k + 1, false, by omega, by go_num, rfl, Lib.hid ⟨⟨_, HA.out.1, ?_, ?_⟩, HA.out.2.2.row (by omega) HROWR.out, HBEL.out.trans (HA.out.2.1.mono (by omega))⟩⟩
            · have := HE.out
              rw [List.append_assoc]
              exact this
            · have := HAK.out
              rw [List.length_append]
              show acc.length + 1 ≤ k + 1
              omega
          case measure => simp [intOf] <;> omega
      · have hk2 : ¬ (k : Int) < (n : Int) := by omega
        have hacc : acc = unescP q := by
          have := HEQ0.out
          rw [List.drop_of_length_le (by rw [HL.out]; omega)] at this
          have h0 : unescF fl [] = [] := by unfold unescF; rfl
          rw [h0, List.append_nil] at this
          exact this
        have HACC := Lib.hid hacc
        clear hacc
        go_wp2_with fail
        refine (bld_string _ _ acc wr HBLD.out.bld (by have := HBLD.out.lt; omega)).mono ?_
        rintro e w2 ⟨rfl, hW⟩
        have HW := Lib.hid hW
        clear hW
        go_wp2
        go_ret
        exact str_fin (by rw [HACC.out, HM.out]) (HBEL.out.trans (HW.out.bel.mono (by omega)))
theorem tvalue_any (t : Tok) (w : World) (hl : t.text.length ≤ 1000000000) :
    Calls Tryz.prog 101 #[.agg #[.int .i64 t.kind, .string (ba t.text)]] w (StrB w (meanP t)) := by
  by_cases h : (t.kind ≠ 2 ∧ t.kind ≠ 3) ∨ t.text.length < 2
  · exact tvalue_short t w h
  · refine tvalue_long t w hl ?_ (by omega)
    by_cases h2 : t.kind = 2
    · exact .inl h2
    · by_cases h3 : t.kind = 3
      · exact .inr h3
      · exact absurd (.inl ⟨h2, h3⟩) h
end Go.Proofs.YtnpgnohlcphfnaaGreatDoor
end
section
namespace Go.Proofs.YtnpgnohlcphfnaaGreatDoor
open Go.RowKit
set_option linter.unusedVariables false

def hexD (n : Nat) : UInt8 := UInt8.ofNat (if n < 10 then 48 + n else 87 + n)
def hexP (l : List UInt8) : List UInt8 := l.flatMap fun c => [hexD (c.toNat / 16), hexD (c.toNat % 16)]
theorem hexP_snoc {l : List UInt8} {k : Nat} (hk : k < l.length) : hexP (l.take (k + 1)) = hexP (l.take k) ++ [hexD (l[k].toNat / 16)] ++ [hexD (l[k].toNat % 16)] := by
  rw [List.take_succ_eq_append_getElem hk]
  unfold hexP
  rw [List.flatMap_append, List.append_assoc]
  rfl
theorem hexP_len (l : List UInt8) : (hexP l).length = 2 * l.length := by
  induction l with
  | nil => rfl
  | cons a r ih =>
    have : hexP (a :: r) = [hexD (a.toNat / 16), hexD (a.toNat % 16)] ++ hexP r := rfl
    rw [this, List.length_append, ih]
    show 2 + 2 * r.length = 2 * (r.length + 1)
    omega
theorem hexDigits_at (n : Nat) (h : n < 16) (h2 : n < (⟨#[48, 49, 50, 51, 52, 53, 54, 55, 56, 57, 97, 98, 99, 100, 101, 102]⟩ : ByteArray).size) : ((⟨#[48, 49, 50, 51, 52, 53, 54, 55, 56, 57, 97, 98, 99, 100, 101, 102]⟩ : ByteArray)[n]'h2) = hexD n := by
  revert h2
  revert n
  decide
structure BRel (w : World) (b : Nat) (acc : List UInt8) (wr : World) : Prop where
  bld : Bld wr b b acc
  bel : Below b w wr
set_option maxRecDepth 100000 in
set_option maxHeartbeats 4000000 in
theorem hex_any (l : List UInt8) (w : World) (hl : l.length ≤ 1000000000) :
    Calls Tryz.prog 47 #[.string (ba l)] w (StrB w (hexP l)) := by
  have HB0 := Lib.hid (bld_new w)
  obtain ⟨n, hn⟩ : ∃ n, l.length = n := ⟨_, rfl⟩
  have HL := Lib.hid hn
  obtain ⟨s, hs⟩ : ∃ s, ba l = s := ⟨_, rfl⟩
  have HS := Lib.hid hs
  have HZ := Lib.hid (show s.size = n by rw [← hs, ba_size, hn])
  have hsz : (s.size : Int) = n := by rw [HZ.out]
  rw [hs]
  rw [hn] at hl
  clear hs hn
  go_enter Tryz.func47, Tryz.ntmps47
  go_wp2
  go_loopw [7] (fun i wr => ∃ k : Nat, k ≤ n ∧ i = .int .i64 (k : Int) ∧ Hid (BRel w w.heap.size (hexP (l.take k)) wr)) (fun i _ => n - (intOf i).toNat)
  case atStart => exact ⟨0, Nat.zero_le _, rfl, Lib.hid ⟨HB0.out, (Below.refl _ _).alloc (Nat.le_refl _) _⟩⟩
  case round =>
    obtain ⟨k, hk, rfl, HR⟩ := hrel
    have hsz2 := HR.out.bel.size
    by_cases hlt : k < n
    · have hk2 : (k : Int) < (n : Int) := by omega
      have hk0 : (0 : Int) ≤ (k : Int) := by omega
      have hks : k < s.size := by rw [HZ.out]; omega
      have hkl : k < l.length := by rw [HL.out]; omega
      have hget : s[k] = l[k] := by
        have h := HS.out
        subst h
        rfl
      have HP := Lib.hid (hexP_snoc hkl)
      have HLEN := Lib.hid (hexP_len (l.take k))
      have hln : (l.take k).length ≤ 1000000000 := by rw [List.length_take]; omega
      have HLN := Lib.hid hln
      clear hln
      obtain ⟨c, hc⟩ : ∃ c, l[k] = c := ⟨_, rfl⟩
      rw [hc] at hget HP
      obtain ⟨x, hx⟩ : ∃ x : Int, (c.toNat : Int) = x := ⟨_, rfl⟩
      have hgi : ((s[k]).toNat : Int) = x := by rw [hget]; exact hx
      have HX := Lib.hid hx
      have hx0 : 0 ≤ x := by omega
      have hx1 : x ≤ 255 := by have := c.toNat_lt; omega
      clear hc hkl hget hx
      have hg1 : ∀ h : (x / 16).toNat < (⟨#[48, 49, 50, 51, 52, 53, 54, 55, 56, 57, 97, 98, 99, 100, 101, 102]⟩ : ByteArray).size, (((⟨#[48, 49, 50, 51, 52, 53, 54, 55, 56, 57, 97, 98, 99, 100, 101, 102]⟩ : ByteArray)[(x / 16).toNat]'h).toNat : Int) = ((hexD (c.toNat / 16)).toNat : Int) := fun h => by
        have e : (x / 16).toNat = c.toNat / 16 := by rw [← HX.out]; omega
        rw [hexDigits_at _ (by omega) h, e]
      have hg2 : ∀ h : (x % 16).toNat < (⟨#[48, 49, 50, 51, 52, 53, 54, 55, 56, 57, 97, 98, 99, 100, 101, 102]⟩ : ByteArray).size, (((⟨#[48, 49, 50, 51, 52, 53, 54, 55, 56, 57, 97, 98, 99, 100, 101, 102]⟩ : ByteArray)[(x % 16).toNat]'h).toNat : Int) = ((hexD (c.toNat % 16)).toNat : Int) := fun h => by
        have e : (x % 16).toNat = c.toNat % 16 := by rw [← HX.out]; omega
        rw [hexDigits_at _ (by omega) h, e]
      obtain ⟨d1, hd1⟩ : ∃ d, hexD (c.toNat / 16) = d := ⟨_, rfl⟩
      obtain ⟨d2, hd2⟩ : ∃ d, hexD (c.toNat % 16) = d := ⟨_, rfl⟩
      rw [hd1, hd2] at HP
      simp only [hd1] at hg1
      simp only [hd2] at hg2
      clear hd1 hd2
      obtain ⟨acc, hacc⟩ : ∃ a, hexP (l.take k) = a := ⟨_, rfl⟩
      rw [hacc] at HP HLEN
      have hal : acc.length ≤ 2000000000 := by rw [HLEN.out]; have := HLN.out; omega
      have HBD := Lib.hid HR.out.bld
      have HBE := Lib.hid HR.out.bel
      rw [hacc] at HBD
      clear HR hacc
      go_wp2_with fail
      refine (write_byte _ _ acc d1 wr HBD.out (by omega) hsz2).mono ?_
      rintro e w2 ⟨rfl, hW⟩
      have HW := Lib.hid hW
      have hsz3 := hW.bel.size
      clear hW
      go_wp2_with fail
      refine (write_byte _ _ (acc ++ [d1]) d2 w2 HW.out.bld (by rw [List.length_append]; show _ + 1 + 1 ≤ _; omega) (by omega)).mono ?_
      rintro e w3 ⟨rfl, hW2⟩
      have HW2 := Lib.hid hW2
      clear hW2
      go_wp2
      go_roundw
      case rel =>
        refine ⟨k + 1, by omega, by go_num, Lib.hid ⟨?_, (HBE.out.trans HW.out.bel).trans HW2.out.bel⟩⟩
        rw [HP.out]
        exact HW2.out.bld
      case measure => simp [intOf] <;> omega
    · obtain rfl : k = n := by omega
      go_wp2_with fail
      refine (bld_string _ _ _ wr HR.out.bld hsz2).mono ?_
      rintro e w2 ⟨rfl, hW⟩
      have HW := Lib.hid hW
      clear hW
      go_wp2
      go_ret
      exact str_fin (by rw [List.take_of_length_le (by rw [HL.out]; exact Nat.le_refl _)]) (HR.out.bel.trans HW.out.bel)
end Go.Proofs.YtnpgnohlcphfnaaGreatDoor
end
section
namespace Go.Proofs.YtnpgnohlcphfnaaGreatDoor
open Go.RowKit
set_option linter.unusedVariables false

theorem below_drewN {B : Nat} {a b : World} (h : Below B a b) (n : Nat) : Below B a (b.drewN n) := ⟨h.os, h.tape, h.output, h.size, h.block⟩
def unhexP : List UInt8 → Option (List UInt8)
  | [] => some []
  | [_] => none
  | x :: y :: r => match hexV x, hexV y with
    | some a, some b => (unhexP r).map (UInt8.ofNat (a * 16 + b) :: ·)
    | _, _ => none
def digV (c : UInt8) : Int := match hexV c with
  | some a => (a : Int)
  | none => -1
def lowF (c : UInt8) : UInt8 := if 65 ≤ c ∧ c ≤ 70 then c + 32 else c
theorem u8_all (p : UInt8 → Prop) (h : ∀ n : Fin 256, p (UInt8.ofNat n.val)) (c : UInt8) : p c := by
  have := h ⟨c.toNat, c.toNat_lt⟩
  simpa using this
theorem hexIdx (c : UInt8) : Lib.indexByte [48, 49, 50, 51, 52, 53, 54, 55, 56, 57, 97, 98, 99, 100, 101, 102] (lowF c) = digV c := u8_all (fun c => Lib.indexByte [48, 49, 50, 51, 52, 53, 54, 55, 56, 57, 97, 98, 99, 100, 101, 102] (lowF c) = digV c) (by decide +kernel) c
theorem digV_bd (c : UInt8) : -1 ≤ digV c ∧ digV c ≤ 15 := u8_all (fun c => -1 ≤ digV c ∧ digV c ≤ 15) (by decide +kernel) c
theorem digV_hex (c : UInt8) : hexV c = if digV c < 0 then none else some (digV c).toNat := by
  unfold digV
  cases h : hexV c with
  | none => rfl
  | some a =>
    show some a = if (a : Int) < 0 then none else some (a : Int).toNat
    rw [if_neg (by omega)]
    simp
theorem hindex_any (c : UInt8) (w : World) : Calls Tryz.prog 67 #[.string ⟨#[48, 49, 50, 51, 52, 53, 54, 55, 56, 57, 97, 98, 99, 100, 101, 102]⟩, .int .u8 ((lowF c).toNat : Int)] w fun e w' => e = .returned (.int .i64 (digV c)) ∧ w' = w := by
  refine (Tryz.strings_IndexByte _ ((lowF c).toNat : Int) w).mono ?_
  rintro e w' ⟨rfl, rfl⟩
  rw [u8_back, ← hexIdx]
  exact ⟨rfl, rfl⟩
theorem lowF_yes {c : UInt8} {x : Int} (hx : (c.toNat : Int) = x) (h : 65 ≤ x ∧ x ≤ 70) : ((lowF c).toNat : Int) = x + 32 := by
  unfold lowF
  have h1 : 65 ≤ c ∧ c ≤ 70 := by
    rw [UInt8.le_iff_toNat_le, UInt8.le_iff_toNat_le]
    show (65 : Nat) ≤ _ ∧ _ ≤ (70 : Nat)
    omega
  rw [if_pos h1, UInt8.toNat_add]
  show (((c.toNat + 32) % 256 : Nat) : Int) = _
  omega
theorem lowF_no {c : UInt8} {x : Int} (hx : (c.toNat : Int) = x) (h : ¬ (65 ≤ x ∧ x ≤ 70)) : ((lowF c).toNat : Int) = x := by
  unfold lowF
  have h1 : ¬ (65 ≤ c ∧ c ≤ 70) := by
    rw [UInt8.le_iff_toNat_le, UInt8.le_iff_toNat_le]
    show ¬ ((65 : Nat) ≤ _ ∧ _ ≤ (70 : Nat))
    omega
  rw [if_neg h1]
  exact hx
set_option maxRecDepth 100000 in
set_option maxHeartbeats 4000000 in
theorem digit_any (c : UInt8) (w : World) : Calls Tryz.prog 181 #[.int .u8 (c.toNat : Int)] w fun e w' => e = .returned (.int .i64 (digV c)) ∧ w' = w := by
  have hix := fun W => hindex_any c W
  obtain ⟨x, hx⟩ : ∃ x : Int, (c.toNat : Int) = x := ⟨_, rfl⟩
  have HY := Lib.hid (lowF_yes hx)
  have HN := Lib.hid (lowF_no hx)
  have hx0 : 0 ≤ x := by omega
  have hx1 : x ≤ 255 := by have := c.toNat_lt; omega
  rw [hx]
  clear hx
  by_cases e1 : 65 ≤ x
  · have g1 : decide (65 ≤ x) = true := decide_eq_true e1
    by_cases e2 : x ≤ 70
    · have g2 : decide (x ≤ 70) = true := decide_eq_true e2
      rw [HY.out ⟨e1, e2⟩] at hix
      have HIX := Lib.hid hix
      clear hix
      go_enter Tryz.func181, Tryz.ntmps181
      go_wp2_with fail
      refine (HIX.out _).mono ?_
      rintro e w' ⟨rfl, rfl⟩
      go_wp2
      go_ret
      exact ⟨rfl, rfl⟩
    · have g2 : decide (x ≤ 70) = false := decide_eq_false e2
      rw [HN.out (fun h => e2 h.2)] at hix
      have HIX := Lib.hid hix
      clear hix
      go_enter Tryz.func181, Tryz.ntmps181
      go_wp2_with fail
      refine (HIX.out _).mono ?_
      rintro e w' ⟨rfl, rfl⟩
      go_wp2
      go_ret
      exact ⟨rfl, rfl⟩
  · have g1 : decide (65 ≤ x) = false := decide_eq_false e1
    rw [HN.out (fun h => e1 h.1)] at hix
    have HIX := Lib.hid hix
    clear hix
    go_enter Tryz.func181, Tryz.ntmps181
    go_wp2_with fail
    refine (HIX.out _).mono ?_
    rintro e w' ⟨rfl, rfl⟩
    go_wp2
    go_ret
    exact ⟨rfl, rfl⟩
theorem bits16 {a b : Int} (h1 : 0 ≤ a) (h2 : a ≤ 15) (h3 : 0 ≤ b) (h4 : b ≤ 15) : bits BinOp.or IntKind.i64 (a * 16) b % 256 = a * 16 + b := by
  have h : ∀ x y : Fin 16, bits BinOp.or IntKind.i64 ((x.val : Int) * 16) (y.val : Int) % 256 = (x.val : Int) * 16 + (y.val : Int) := by decide +kernel
  have := h ⟨a.toNat, by omega⟩ ⟨b.toNat, by omega⟩
  simp only [Int.toNat_of_nonneg h1, Int.toNat_of_nonneg h3] at this
  exact this
theorem make_bytes {m : Nat} (hm : m < 1099511627776) (W : World) : (Instr.makeSlice 59 (.int .i64 (m : Int)) (.int .i64 (m : Int))).run Tryz.prog W = .ok (.slice (some ⟨W.heap.size, 0, none⟩) m m) (W.alloc (.cells (madeCells #[.int .u8 0] m) 5)) := by
  obtain ⟨i0, hi, hz0, hz1, hz2⟩ := info_parts info_u8
  have := run_make (P := Tryz.prog) W 59 5 i0 (.int .u8 0) Tryz.underlying59 hi hz0 .i64 .i64 (m : Int) (m : Int) (by omega) (by omega) (by rw [hz2]; omega) (by omega)
  rw [this, hz1, Nat.mul_one]
  rfl
theorem ByteRow.made (W : World) (m : Nat) (T : TypeId) : ByteRow (W.alloc (.cells (madeCells #[.int .u8 0] m) T)) W.heap.size (List.replicate m 0) := by
  refine ⟨madeCells #[.int .u8 0] m, T, (0, 0), ?_, fun j hj => ?_, .inr rfl⟩
  · show (W.heap.push _)[W.heap.size]? = _
    simp
  · rw [List.length_replicate] at hj
    rw [List.getElem_replicate]
    simp [madeCells, hj, Nat.mod_one]
def UnhexPost (w : World) (l : List UInt8) (e : Ending) (w' : World) : Prop := e = .returned (.tuple #[.string (ba ((unhexP l).getD [])), .bool (unhexP l).isSome]) ∧ Below w.heap.size w w'
theorem unhex_odd : ∀ l : List UInt8, l.length % 2 = 1 → unhexP l = none
  | [], h => by simp at h
  | [_], _ => rfl
  | x :: y :: r, h => by
    unfold unhexP
    rw [unhex_odd r (by simp at h; omega)]
    split <;> rfl
theorem unhex_len : ∀ (l a : List UInt8), unhexP l = some a → 2 * a.length = l.length
  | [], a, h => by injection h with h; subst h; rfl
  | [_], a, h => by cases h
  | x :: y :: r, a, h => by
    unfold unhexP at h
    split at h
    · obtain ⟨b, hb, rfl⟩ := Option.map_eq_some_iff.1 h
      have := unhex_len r b hb
      simp only [List.length_cons]
      omega
    · cases h
theorem unhex_cons {l : List UInt8} {k : Nat} (hk : 2 * k + 1 < l.length) : unhexP (l.drop (2 * k)) = match hexV l[2 * k], hexV l[2 * k + 1] with
    | some a, some b => (unhexP (l.drop (2 * (k + 1)))).map (UInt8.ofNat (a * 16 + b) :: ·)
    | _, _ => none := by
  rw [List.drop_eq_getElem_cons (by omega : 2 * k < l.length), List.drop_eq_getElem_cons hk]
  conv => lhs; unfold unhexP
  rw [show 2 * (k + 1) = 2 * k + 1 + 1 by omega]
/-- The state of the loop: k bytes are decoded. -/
def UhRel (w : World) (l : List UInt8) (m k : Nat) (wr : World) : Prop :=
  ∃ acc, acc.length = k ∧ ByteRow wr w.heap.size (acc ++ List.replicate (m - k) 0) ∧ unhexP l = (unhexP (l.drop (2 * k))).map (acc ++ ·) ∧ Below w.heap.size w wr
set_option maxRecDepth 100000 in
set_option maxHeartbeats 4000000 in
theorem unhex_any (l : List UInt8) (w : World) (hl : l.length ≤ 1000000000) :
    Calls Tryz.prog 145 #[.string (ba l)] w (UnhexPost w l) := by
  obtain ⟨n, hn⟩ : ∃ n, l.length = n := ⟨_, rfl⟩
  have HL := Lib.hid hn
  obtain ⟨s, hs⟩ : ∃ s, ba l = s := ⟨_, rfl⟩
  have HS := Lib.hid hs
  have HZ := Lib.hid (show s.size = n by rw [← hs, ba_size, hn])
  have hsz : (s.size : Int) = n := by rw [HZ.out]
  rw [hs]
  rw [hn] at hl
  clear hs hn
  by_cases hodd : n % 2 = 1
  · have HV := Lib.hid (unhex_odd l (by rw [HL.out]; exact hodd))
    have ho : (n : Int) % 2 = 1 := by omega
    clear hodd
    go_enter Tryz.func145, Tryz.ntmps145
    go_wp2
    go_ret2
    unfold UnhexPost
    rw [HV.out]
    exact ⟨rfl, Below.refl _ _⟩
  obtain ⟨m, hm⟩ : ∃ m, n = 2 * m := ⟨n / 2, by omega⟩
  have hml : m ≤ 1000000000 := by omega
  have ho : (n : Int) % 2 = 0 := by omega
  have hq : (n : Int) / 2 = (m : Int) := by omega
  have HNM := Lib.hid hm
  clear hodd
  have hmk := make_bytes (m := m) (by omega)
  clear hm
  have HROW := Lib.hid (ByteRow.made w m 5)
  go_enter Tryz.func145, Tryz.ntmps145
  go_wp2
  clear ho hq hsz
  go_loopw [19] (fun i wr => ∃ k : Nat, k ≤ m ∧ i = .int .i64 (k : Int) ∧ Hid (UhRel w l m k wr)) (fun i _ => m - (intOf i).toNat)
  case atStart => exact ⟨0, Nat.zero_le _, rfl, Lib.hid ⟨[], rfl, HROW.out, by simp, (Below.refl _ _).alloc (Nat.le_refl _) _⟩⟩
  case round =>
    obtain ⟨k, hk, rfl, HR⟩ := hrel
    obtain ⟨acc, hal, hrow, heq, hbel⟩ := HR.out
    have hsz2 := hbel.size
    have HAL := Lib.hid hal
    have HRW := Lib.hid hrow
    have HEQ0 := Lib.hid heq
    have HBE := Lib.hid hbel
    clear HR hal hrow heq hbel hmk
    by_cases hlt : k < m
    · have hk2 : (k : Int) < (m : Int) := by omega
      have hk0 : (0 : Int) ≤ (k : Int) := by omega
      have hnm := HNM.out
      have hkl : 2 * k < l.length := by rw [HL.out]; omega
      have hkl2 : 2 * k + 1 < l.length := by rw [HL.out]; omega
      have hge1 : s[2 * k]'(by rw [HZ.out]; omega) = l[2 * k] := by
        have h := HS.out
        subst h
        rfl
      have hge2 : s[2 * k + 1]'(by rw [HZ.out]; omega) = l[2 * k + 1] := by
        have h := HS.out
        subst h
        rfl
      have HUC := Lib.hid (unhex_cons hkl2)
      obtain ⟨c, hc⟩ : ∃ c, l[2 * k] = c := ⟨_, rfl⟩
      obtain ⟨d, hd⟩ : ∃ d, l[2 * k + 1] = d := ⟨_, rfl⟩
      rw [hc] at hge1 HUC
      rw [hd] at hge2 HUC
      obtain ⟨x, hx⟩ : ∃ x : Int, (c.toNat : Int) = x := ⟨_, rfl⟩
      obtain ⟨y, hy⟩ : ∃ x : Int, (d.toNat : Int) = x := ⟨_, rfl⟩
      have hD1 := digit_any c
      have hD2 := digit_any d
      rw [hx] at hD1
      rw [hy] at hD2
      have hgi1 : ∀ h : 2 * k < s.size, ((s[2 * k]'h).toNat : Int) = x := fun h => by rw [hge1]; exact hx
      have hgi2 : ∀ h : 2 * k + 1 < s.size, ((s[2 * k + 1]'h).toNat : Int) = y := fun h => by rw [hge2]; exact hy
      have HB1 := digV_bd c
      have HB2 := digV_bd d
      have HV1 := Lib.hid (digV_hex c)
      have HV2 := Lib.hid (digV_hex d)
      obtain ⟨v1, hv1⟩ : ∃ v, digV c = v := ⟨_, rfl⟩
      obtain ⟨v2, hv2⟩ : ∃ v, digV d = v := ⟨_, rfl⟩
      simp only [hv1] at hD1 HB1 HV1
      simp only [hv2] at hD2 HB2 HV2
      have HD1 := Lib.hid hD1
      have HD2 := Lib.hid hD2
      clear hc hd hkl hkl2 hx hy hge1 hge2 hv1 hv2 hD1 hD2
      have hs1 : 2 * (k : Int) < (s.size : Int) := by rw [HZ.out, hnm]; omega
      have hs2 : 2 * (k : Int) + 1 < (s.size : Int) := by rw [HZ.out, hnm]; omega
      clear hnm
      have hs3 : (0 : Int) ≤ 2 * (k : Int) := by omega
      have hs4 : (0 : Int) ≤ 2 * (k : Int) + 1 := by omega
      have hw1 : IntKind.i64.wrap (2 * (k : Int)) = 2 * (k : Int) := IntWalk.i64_in _ (by omega)
      have hw2 : IntKind.i64.wrap (2 * (k : Int) + 1) = 2 * (k : Int) + 1 := IntWalk.i64_in _ (by omega)
      have ht1 : (2 * (k : Int)).toNat = 2 * k := by omega
      have ht2 : (2 * (k : Int) + 1).toNat = 2 * k + 1 := by omega
      go_wp2
      refine wp_region_quiet_lit (by kernel_rfl) (by kernel_rfl) ?_
      repeat (go_big_quiet_step (fail))
      go_big_quiet_step (exact Calls.quiet_of_same (HD1.out _))
      repeat (go_big_quiet_step (fail))
      go_big_quiet_step (exact Calls.quiet_of_same (HD2.out _))
      repeat (go_big_quiet_step (fail))
      refine wpQuiet_nil ?_
      intro _ hw'
      obtain ⟨nq, hw''⟩ := hw'
      subst hw''
      clear hs1 hs2 hs3 hs4 hw1 hw2 ht1 ht2 hgi1 hgi2
      by_cases e1 : v1 < 0
      · have g1 : decide (v1 < 0) = true := decide_eq_true e1
        have HV := Lib.hid (show unhexP l = none by
          rw [HEQ0.out, HUC.out, HV1.out, if_pos e1]
          rfl)
        clear e1
        go_wp2
        go_ret2
        unfold UnhexPost
        rw [HV.out]
        exact ⟨rfl, below_drewN HBE.out nq⟩
      have g1 : decide (v1 < 0) = false := decide_eq_false e1
      by_cases e2 : v2 < 0
      · have g2 : decide (v2 < 0) = true := decide_eq_true e2
        have HV := Lib.hid (show unhexP l = none by
          rw [HEQ0.out, HUC.out, HV1.out, HV2.out, if_neg e1, if_pos e2]
          rfl)
        clear e1 e2
        go_wp2
        go_ret2
        unfold UnhexPost
        rw [HV.out]
        exact ⟨rfl, below_drewN HBE.out nq⟩
      have g2 : decide (v2 < 0) = false := decide_eq_false e2
      have hv1 : 0 ≤ v1 := by omega
      have hv2 : 0 ≤ v2 := by omega
      have hv3 : v1 ≤ 15 := HB1.2
      have hv4 : v2 ≤ 15 := HB2.2
      obtain ⟨z, hz⟩ : ∃ z : UInt8, UInt8.ofNat (v1.toNat * 16 + v2.toNat) = z := ⟨_, rfl⟩
      have HEQ := Lib.hid (show unhexP l = (unhexP (l.drop (2 * (k + 1)))).map ((acc ++ [z]) ++ ·) by
        rw [HEQ0.out, HUC.out, HV1.out, HV2.out, if_neg e1, if_neg e2, ← hz]
        show Option.map _ (Option.map _ _) = _
        rw [Option.map_map]
        congr 1
        funext q
        simp)
      have HZZ := Lib.hid (show (z.toNat : Int) = v1 * 16 + v2 by
        rw [← hz, UInt8.toNat_ofNat']
        omega)
      have hkr : k < (acc ++ List.replicate (m - k) 0).length := by rw [List.length_append, HAL.out, List.length_replicate]; omega
      have hcell := HRW.out.cell hkr
      have hfree := HRW.out.free hkr
      have HSET := Lib.hid (HRW.out.set hkr z)
      clear e1 e2 hz HB1 HB2
      have HBI := Lib.hid (bits16 hv1 hv3 hv2 hv4)
      go_wp2
      go_roundw
      case rel =>
        rw [HBI.out]
        refine ⟨k + 1, by omega, by go_num, Lib.hid ⟨acc ++ [z], by rw [List.length_append, HAL.out]; rfl, ?_, HEQ.out, (below_drewN HBE.out nq).setCell (Nat.le_refl _) _⟩⟩
        have h1 := HSET.out
        rw [HZZ.out] at h1
        have h2 : (acc ++ List.replicate (m - k) 0).set k z = acc ++ [z] ++ List.replicate (m - (k + 1)) 0 := by
          rw [List.set_append_right _ _ (by rw [HAL.out]; exact Nat.le_refl _), HAL.out, show k - k = 0 by omega, show m - k = (m - (k + 1)) + 1 by omega, List.replicate_succ, List.set_cons_zero, List.append_assoc]
          rfl
        rw [h2] at h1
        exact h1
      case measure => simp [intOf] <;> omega
    · obtain rfl : k = m := by omega
      have hun : unhexP l = some acc := by
        rw [HEQ0.out, List.drop_of_length_le (by rw [HL.out, HNM.out]; exact Nat.le_refl _)]
        show some (acc ++ []) = _
        rw [List.append_nil]
      have hrow : ByteRow wr w.heap.size acc := by
        have := HRW.out
        rw [show k - k = 0 by omega] at this
        simpa using this
      have hback := run_convert_bytes_back (P := Tryz.prog) wr 59 9 5 ⟨w.heap.size, 0, none⟩ k acc Tryz.underlying59 Tryz.underlying5 Tryz.underlying9 hrow.cells
      rw [HAL.out] at hback
      have HUN := Lib.hid hun
      clear hrow hun
      go_wp2
      go_ret2
      unfold UnhexPost
      rw [HUN.out]
      exact ⟨rfl, HBE.out⟩
end Go.Proofs.YtnpgnohlcphfnaaGreatDoor
end
