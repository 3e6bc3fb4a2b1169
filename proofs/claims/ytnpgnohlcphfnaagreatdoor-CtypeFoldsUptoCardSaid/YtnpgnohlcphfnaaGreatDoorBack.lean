/- CtypeBack: the walk. -/
import Derived.Test.YtnpgnohlcphfnaaGreatDoorLright
import Derived.Test.YtnpgnohlcphfnaaGreatDoorRCtI
import Derived.Test.YtnpgnohlcphfnaaGreatDoorM16
import Derived.Test.YtnpgnohlcphfnaaGreatDoorM17
namespace Go.Proofs.YtnpgnohlcphfnaaGreatDoor
open Go.RowKit
set_option linter.unusedVariables false

def sizeP (ps : List (List UInt8 × List UInt8)) : Nat := ps.foldr (fun p a => p.1.length + p.2.length + a) 0
theorem sizeP_mem : ∀ {ps : List (List UInt8 × List UInt8)} {p : List UInt8 × List UInt8}, p ∈ ps → p.1.length + p.2.length ≤ sizeP ps
  | q :: r, p, h => by
    show _ ≤ q.1.length + q.2.length + sizeP r
    rcases List.mem_cons.1 h with rfl | h
    · omega
    · have := sizeP_mem h
      omega
theorem line_size (first : List UInt8) : ∀ ps : List (List UInt8 × List UInt8), (∀ p ∈ ps, p.2.length ≤ 2000) → (lineP first ps).length ≤ first.length + sizeP ps + ps.length * 6011
  | [], _ => by unfold lineP; simp
  | p :: ps, h => by
    have ih := line_size first ps fun q hq => h q (by simp [hq])
    have h1 := h p (by simp)
    have h2 : (fmtV p.2).length ≤ 6009 := by
      rw [fmt_cases]
      have h3 := rawP_len true p.2
      have h4 := rawP_len false p.2
      split
      · simp; omega
      · split
        · simp; omega
        · simp; omega
    have e : lineP first (p :: ps) = first ++ (([59, 32] ++ p.1 ++ fmtV p.2) ++ ps.flatMap fun p => [59, 32] ++ p.1 ++ fmtV p.2) := rfl
    have e2 : lineP first ps = first ++ ps.flatMap fun p => [59, 32] ++ p.1 ++ fmtV p.2 := rfl
    have e3 : sizeP (p :: ps) = p.1.length + p.2.length + sizeP ps := rfl
    rw [e2, List.length_append] at ih
    rw [e, e3, List.length_append, List.length_append, List.length_append, List.length_append]
    generalize (ps.flatMap fun p => [59, 32] ++ p.1 ++ fmtV p.2).length = X at ih ⊢
    have h5 : ([59, 32] : List UInt8).length = 2 := rfl
    have h6 : (p :: ps).length * 6011 = ps.length * 6011 + 6011 := by rw [List.length_cons]; exact Nat.succ_mul _ _
    rw [h6]
    omega
/-- What is written of a type that Write preserves. -/
structure BackT (kind sub : List UInt8) (ps : List (List UInt8 × List UInt8)) : Prop where
  parse : parseT (lineP (kind ++ [47] ++ sub) ps) = (⟨kind, sub, ps⟩, true)
  disp : dispT (lineP kind ps) = (kind, ps)
  print : ∀ c ∈ lineP (kind ++ [47] ++ sub) ps, 32 ≤ c ∧ c ≤ 126
  val : ∀ p ∈ ps, p.2.length ≤ 100000000
  one : (lineP (kind ++ [47] ++ sub) ps).length ≤ 10000000
  two : (lineP kind ps).length ≤ 10000000
theorem word_asc {l : List UInt8} (h : isWord l = true) : ∀ c ∈ l, 32 ≤ c ∧ c ≤ 126 := fun c hc => (word_facts c ((isWord_all h).1 c hc)).2.2.2.2.2.2
theorem RightT.back {kind sub : List UInt8} {ps : List (List UInt8 × List UInt8)} (h : RightT kind sub ps) (hb : kind.length + sub.length + sizeP ps ≤ 1048576) : BackT kind sub ps := by
  have hv : ∀ p ∈ ps, p.2.length ≤ 2000 := fun p hp => (h.good p hp).2
  have h1 := line_size (kind ++ [47] ++ sub) ps hv
  have h2 := line_size kind ps hv
  have hl := h.len
  have e : (kind ++ [47] ++ sub).length = kind.length + 1 + sub.length := by rw [List.length_append, List.length_append]; rfl
  refine ⟨parse_line h.kw h.kl h.sw h.sl (fun p hp => (h.good p hp).1) h.nodup, disp_line h.kw h.kl (fun p hp => (h.good p hp).1) h.nodup, line_print ?_ (fun p hp => (h.good p hp).1), fun p hp => Nat.le_trans (hv p hp) (by decide), by omega, by omega⟩
  intro c hc
  rw [List.mem_append, List.mem_append] at hc
  rcases hc with (hc | hc) | hc
  · exact word_asc h.kw c hc
  · rw [List.mem_singleton.1 hc]; decide
  · exact word_asc h.sw c hc
theorem print_at {l : List UInt8} (h : ∀ c ∈ l, 32 ≤ c ∧ c ≤ 126) {k : Nat} (hk : k < l.length) : 32 ≤ (l[k].toNat : Int) ∧ (l[k].toNat : Int) ≤ 126 := by
  have h1 := h _ (List.getElem_mem hk)
  rw [UInt8.le_iff_toNat_le, UInt8.le_iff_toNat_le] at h1
  have e1 : (32 : UInt8).toNat = 32 := rfl
  have e2 : (126 : UInt8).toNat = 126 := rfl
  omega
set_option maxRecDepth 100000 in
set_option maxHeartbeats 4000000 in
theorem back_any (kind sub : List UInt8) (ps : List (List UInt8 × List UInt8)) (A : Option Addr) (n c : Nat) (w : World) (hP : Pars w w.heap.size A n ps) (hk : kind.length ≤ 140737488351232) (hs : sub.length ≤ 140737488351232) (hps : ∀ p ∈ ps, p.1.length ≤ 140737488351232 ∧ p.2.length ≤ 140737488351232) (hn : n ≤ 9223372036854775807) (hbulk : kind.length + sub.length + sizeP ps ≤ 1048576) (hT : Tabs w) :
    Calls Tryz.prog 6 #[.agg #[.string (ba kind), .string (ba sub), .slice A n c]] w (LTrue w) := by
  have hB0 := (Below.refl w.heap.size w).alloc (Nat.le_refl _) (.cells #[.string (ba kind), .string (ba sub), .slice A n c] 26)
  have HB0 := Lib.hid hB0
  have HT0 := Lib.hid (hT.below hB0)
  have HSM := Lib.hid (lsmall_any _ (hT.below hB0))
  have HP := Lib.hid hP
  have HN := Lib.hid hP.len
  have HBK := Lib.hid (fun (h : RightT kind sub ps) => h.back hbulk)
  have HRI := Lib.hid (fun W (hp : Pars W W.heap.size A n ps) (ht : Tabs W) => right_any kind sub ps A n c W hp (by omega) (by omega) (fun p hp => by have := sizeP_mem hp; omega) ht)
  unfold LTrue at HSM
  unfold RightPost at HRI
  clear hP hps hk hs hB0 hT hbulk
  go_enter Tryz.func6, Tryz.ntmps6
  go_wp2_with fail
  refine HSM.out.mono ?_
  rintro e w1 ⟨rfl, hb1⟩
  have t0 : w1.cell? ⟨w.heap.size, 0, none⟩ = some (.string (ba kind)) := (hb1.cell (p := ⟨w.heap.size, 0, none⟩) (by simp)).trans (by go_simp)
  have t1 : w1.cell? ⟨w.heap.size, 1, none⟩ = some (.string (ba sub)) := (hb1.cell (p := ⟨w.heap.size, 1, none⟩) (by simp)).trans (by go_simp)
  have t2 : w1.cell? ⟨w.heap.size, 2, none⟩ = some (.slice A n c) := (hb1.cell (p := ⟨w.heap.size, 2, none⟩) (by simp)).trans (by go_simp)
  have HB1 := Lib.hid (HB0.out.trans (hb1.mono HB0.out.size))
  have hz1 : w.heap.size < w1.heap.size := by have := hb1.size; simp at this; omega
  have HP1 := Lib.hid ((HP.out.below HB1.out).more HB1.out.size)
  have HT1 := Lib.hid (HT0.out.below hb1)
  clear hb1 HSM HT0
  go_wp2_with fail
  refine (HRI.out w1 HP1.out HT1.out).mono ?_
  rintro e w2 ⟨b, rfl, hb2, hr⟩
  cases b
  · have HB2 := Lib.hid (HB1.out.trans (hb2.mono HB1.out.size))
    clear hb2 hr
    go_wp2
    go_ret
    exact ⟨rfl, HB2.out⟩
  · have HK := Lib.hid (HBK.out (hr rfl))
    have HRN := Lib.hid (hr rfl).len
    have hn20 : n ≤ 20 := by have := HRN.out; rw [HN.out] at this; exact this
    have HB2 := Lib.hid (HB1.out.trans (hb2.mono HB1.out.size))
    have u0 : w2.cell? ⟨w.heap.size, 0, none⟩ = some (.string (ba kind)) := (hb2.cell (p := ⟨w.heap.size, 0, none⟩) hz1).trans t0
    have u1 : w2.cell? ⟨w.heap.size, 1, none⟩ = some (.string (ba sub)) := (hb2.cell (p := ⟨w.heap.size, 1, none⟩) hz1).trans t1
    have u2 : w2.cell? ⟨w.heap.size, 2, none⟩ = some (.slice A n c) := (hb2.cell (p := ⟨w.heap.size, 2, none⟩) hz1).trans t2
    have hz2 : w.heap.size < w2.heap.size := Nat.lt_of_lt_of_le hz1 hb2.size
    have HP2 := Lib.hid ((HP.out.below HB2.out).more HB2.out.size)
    have HT2 := Lib.hid (HT1.out.below hb2)
    have HWR := Lib.hid (write_any kind sub ps A n c w2 HP2.out HK.out.val (by omega) (Nat.le_trans HK.out.one (by decide)))
    unfold StrB at HWR
    clear hb2 hr t0 t1 t2 hz1 HP1 HT1 HB1 HRI HBK
    obtain ⟨L, hL⟩ : ∃ L, lineP (kind ++ [47] ++ sub) ps = L := ⟨_, rfl⟩
    have HPA := Lib.hid (show ∀ W, Tabs W → Calls Tryz.prog 10 #[.string (ba L)] W (TypPost W (⟨kind, sub, ps⟩, true)) from fun W ht => by
      rw [← HK.out.parse, hL]
      exact parse_any L W (hL ▸ HK.out.one) ht)
    have HPR := Lib.hid (show ∀ k (hk : k < L.length), 32 ≤ (L[k].toNat : Int) ∧ (L[k].toNat : Int) ≤ 126 from fun k hk => print_at (hL ▸ HK.out.print) hk)
    have hLl : L.length ≤ 10000000 := hL ▸ HK.out.one
    rw [hL] at HWR
    have HLI := Lib.hid (fun W hp => line_any kind ps A n c W hp HK.out.val (by omega) (Nat.le_trans HK.out.two (by decide)))
    unfold StrB at HLI
    obtain ⟨D, hD⟩ : ∃ D, lineP kind ps = D := ⟨_, rfl⟩
    have HDI := Lib.hid (show ∀ W, Tabs W → Calls Tryz.prog 12 #[.string (ba D)] W (DispPost W (kind, ps)) from fun W ht => by
      rw [← HK.out.disp, hD]
      exact disp_any D W (hD ▸ HK.out.two) ht)
    simp only [hD] at HLI
    obtain ⟨sd, hsd⟩ : ∃ s, ba D = s := ⟨_, rfl⟩
    simp only [hsd] at HLI HDI
    clear hsd hD hL
    obtain ⟨m, hnL⟩ : ∃ n, L.length = n := ⟨_, rfl⟩
    have HLL := Lib.hid hnL
    obtain ⟨s, hsL⟩ : ∃ s, ba L = s := ⟨_, rfl⟩
    have HSL := Lib.hid hsL
    have HZL := Lib.hid (show s.size = m by rw [← hsL, ba_size, hnL])
    have hszL : (s.size : Int) = m := by rw [HZL.out]
    rw [hnL] at hLl
    clear hsL hnL
    rw [HSL.out] at HWR HPA
    go_wp2_with fail
    refine HWR.out.mono ?_
    rintro e w3 ⟨rfl, hb3⟩
    have v0 : w3.cell? ⟨w.heap.size, 0, none⟩ = some (.string (ba kind)) := (hb3.cell (p := ⟨w.heap.size, 0, none⟩) hz2).trans u0
    have v1 : w3.cell? ⟨w.heap.size, 1, none⟩ = some (.string (ba sub)) := (hb3.cell (p := ⟨w.heap.size, 1, none⟩) hz2).trans u1
    have v2 : w3.cell? ⟨w.heap.size, 2, none⟩ = some (.slice A n c) := (hb3.cell (p := ⟨w.heap.size, 2, none⟩) hz2).trans u2
    have hz3 : w.heap.size < w3.heap.size := Nat.lt_of_lt_of_le hz2 hb3.size
    have HB3 := Lib.hid (HB2.out.trans (hb3.mono HB2.out.size))
    have HT3 := Lib.hid (HT2.out.below hb3)
    clear hb3 HWR u0 u1 u2 hz2 HP2 HT2 HB2
    go_wp2
    go_loop [5] (fun i => ∃ k : Nat, k ≤ m ∧ i = .int .i64 (k : Int)) (fun i => m - (intOf i).toNat)
    case atStart => exact ⟨0, Nat.zero_le _, rfl⟩
    case round =>
      obtain ⟨k, hk, rfl⟩ := hrel
      by_cases hlt : k < m
      · have hk2L : (k : Int) < (m : Int) := by omega
        have hk0L : (0 : Int) ≤ (k : Int) := by omega
        have hksL : k < s.size := by rw [HZL.out]; omega
        have hklL : k < L.length := by rw [HLL.out]; omega
        have hgetL : s[k] = L[k] := by
          have h := HSL.out
          subst h
          rfl
        have hpr := HPR.out k hklL
        obtain ⟨cc, hcL⟩ : ∃ c, L[k] = c := ⟨_, rfl⟩
        rw [hcL] at hgetL hpr
        obtain ⟨x, hxL⟩ : ∃ x : Int, (cc.toNat : Int) = x := ⟨_, rfl⟩
        have hgiL : ((s[k]).toNat : Int) = x := by rw [hgetL]; exact hxL
        have HXL := Lib.hid hxL
        have hx0L : 0 ≤ x := by omega
        have hx1L : x ≤ 255 := by have := cc.toNat_lt; omega
        clear hcL hklL hgetL hxL
        have g1 : ¬ x < 32 := by have := HXL.out; omega
        have g2 : ¬ (126 : Int) < x := by have := HXL.out; omega
        clear hpr
        go_wp2
        go_round
        case rel => exact ⟨k + 1, by omega, by go_num⟩
        case measure => simp [intOf] <;> omega
      · obtain rfl : m = k := by omega
        have HSA := Lib.hid (show ∀ W A4 c4, Pars W W.heap.size A n ps → Pars W W.heap.size A4 n ps → Calls Tryz.prog 16 #[.agg #[.string (ba kind), .string (ba sub), .slice A n c], .agg #[.string (ba kind), .string (ba sub), .slice A4 n c4]] W fun e w' => e = .returned (.bool true) ∧ Below W.heap.size W w' from fun W A4 c4 h1 h2 => by
          have h := rsame_any kind sub kind sub ps ps A A4 n n c c4 W h1 h2 (by omega) (by omega)
          unfold EqPost at h
          rw [decide_eq_true rfl, decide_eq_true rfl, decide_eq_true rfl] at h
          exact h)
        have HQA := Lib.hid (show ∀ W A4 c4, Pars W W.heap.size A n ps → Pars W W.heap.size A4 n ps → Calls Tryz.prog 17 #[.slice A4 n c4, .slice A n c] W fun e w' => e = .returned (.bool true) ∧ Below W.heap.size W w' from fun W A4 c4 h1 h2 => by
          have h := rparams_any ps ps A4 A n n c4 c W h2 h1 (by omega) (by omega)
          unfold EqPost at h
          rw [decide_eq_true rfl] at h
          exact h)
        obtain ⟨sk, hsk⟩ : ∃ q, ba kind = q := ⟨_, rfl⟩
        obtain ⟨ss, hss⟩ : ∃ q, ba sub = q := ⟨_, rfl⟩
        have HKK := Lib.hid hsk
        have HKS := Lib.hid hss
        rw [hsk] at v0 HSA HLI
        rw [hss] at v1 HSA
        clear hsk hss hlt hk HPR
        go_wp2_with fail
        refine (HPA.out _ HT3.out).mono ?_
        rintro e w4 ⟨pv, rfl, hown4, hb4⟩
        obtain ⟨A4, c4, rfl, -, -, hp4⟩ := hown4.reads
        replace hp4 : Pars w4 w4.heap.size A4 n ps := by rw [← HN.out]; exact hp4
        rw [show (⟨kind, sub, ps⟩ : Typ).params.length = n from HN.out]
        rw [show ba (⟨kind, sub, ps⟩ : Typ).kind = sk from HKK.out, show ba (⟨kind, sub, ps⟩ : Typ).sub = ss from HKS.out]
        have x0 : w4.cell? ⟨w.heap.size, 0, none⟩ = some (.string sk) := (hb4.cell (p := ⟨w.heap.size, 0, none⟩) hz3).trans v0
        have x1 : w4.cell? ⟨w.heap.size, 1, none⟩ = some (.string ss) := (hb4.cell (p := ⟨w.heap.size, 1, none⟩) hz3).trans v1
        have x2 : w4.cell? ⟨w.heap.size, 2, none⟩ = some (.slice A n c) := (hb4.cell (p := ⟨w.heap.size, 2, none⟩) hz3).trans v2
        have hz4 : w.heap.size < w4.heap.size := Nat.lt_of_lt_of_le hz3 hb4.size
        have HB4 := Lib.hid (HB3.out.trans (hb4.mono HB3.out.size))
        have HB5 := Lib.hid (HB4.out.alloc HB4.out.size (.cells #[.string sk, .string ss, .slice A4 n c4] 26))
        have hb45 := (Below.refl w4.heap.size w4).alloc (Nat.le_refl _) (.cells #[.string sk, .string ss, .slice A4 n c4] 26)
        have HP5 := Lib.hid ((HP.out.below HB5.out).more HB5.out.size)
        have HT5 := Lib.hid ((HT3.out.below hb4).below hb45)
        have HU5 := Lib.hid ((hp4.below hb45).more hb45.size)
        have hz5 : w4.heap.size < (w4.alloc (.cells #[.string sk, .string ss, .slice A4 n c4] 26)).heap.size := by simp
        have HZ5 := Lib.hid hz5
        clear hown4 hb4 hb45 hz5 hp4 HPA v0 v1 v2 hz3
        go_wp2_with fail
        refine (HLI.out _ HP5.out).mono ?_
        rintro e w6 ⟨rfl, hb6⟩
        have HB6 := Lib.hid (HB5.out.trans (hb6.mono HB5.out.size))
        have HT6 := Lib.hid (HT5.out.below hb6)
        have HU6 := Lib.hid ((HU5.out.below hb6).more hb6.size)
        have y0 : w6.cell? ⟨w.heap.size, 0, none⟩ = some (.string sk) := (hb6.cell (p := ⟨w.heap.size, 0, none⟩) (Nat.lt_trans hz4 HZ5.out)).trans (by go_simp)
        have y1 : w6.cell? ⟨w.heap.size, 1, none⟩ = some (.string ss) := (hb6.cell (p := ⟨w.heap.size, 1, none⟩) (Nat.lt_trans hz4 HZ5.out)).trans (by go_simp)
        have y2 : w6.cell? ⟨w.heap.size, 2, none⟩ = some (.slice A n c) := (hb6.cell (p := ⟨w.heap.size, 2, none⟩) (Nat.lt_trans hz4 HZ5.out)).trans (by go_simp)
        have z0 : w6.cell? ⟨w4.heap.size, 0, none⟩ = some (.string sk) := (hb6.cell (p := ⟨w4.heap.size, 0, none⟩) HZ5.out).trans (by go_simp)
        have z1 : w6.cell? ⟨w4.heap.size, 1, none⟩ = some (.string ss) := (hb6.cell (p := ⟨w4.heap.size, 1, none⟩) HZ5.out).trans (by go_simp)
        have z2 : w6.cell? ⟨w4.heap.size, 2, none⟩ = some (.slice A4 n c4) := (hb6.cell (p := ⟨w4.heap.size, 2, none⟩) HZ5.out).trans (by go_simp)
        have hz6 : w.heap.size < w6.heap.size := Nat.lt_of_lt_of_le (Nat.lt_trans hz4 HZ5.out) hb6.size
        have hz46 : w4.heap.size < w6.heap.size := Nat.lt_of_lt_of_le HZ5.out hb6.size
        clear hb6 HU5 HT5 HP5 HLI x0 x1 x2
        go_wp2_with fail
        refine (HDI.out _ HT6.out).mono ?_
        rintro e w7 ⟨dv, rfl, hown7, hb7⟩
        obtain ⟨A7, c7, rfl, -, -, hp7⟩ := hown7.reads
        replace hp7 : Pars w7 w7.heap.size A7 n ps := by rw [← HN.out]; exact hp7
        rw [show (kind, ps).2.length = n from HN.out, show ba (kind, ps).1 = sk from HKK.out]
        have HB7 := Lib.hid (HB6.out.trans (hb7.mono HB6.out.size))
        have HP7 := Lib.hid ((HP.out.below HB7.out).more HB7.out.size)
        have HU7 := Lib.hid ((HU6.out.below hb7).more hb7.size)
        have HV7 := Lib.hid hp7
        have r0 : w7.cell? ⟨w.heap.size, 0, none⟩ = some (.string sk) := (hb7.cell (p := ⟨w.heap.size, 0, none⟩) hz6).trans y0
        have r1 : w7.cell? ⟨w.heap.size, 1, none⟩ = some (.string ss) := (hb7.cell (p := ⟨w.heap.size, 1, none⟩) hz6).trans y1
        have r2 : w7.cell? ⟨w.heap.size, 2, none⟩ = some (.slice A n c) := (hb7.cell (p := ⟨w.heap.size, 2, none⟩) hz6).trans y2
        have s0 : w7.cell? ⟨w4.heap.size, 0, none⟩ = some (.string sk) := (hb7.cell (p := ⟨w4.heap.size, 0, none⟩) hz46).trans z0
        have s1 : w7.cell? ⟨w4.heap.size, 1, none⟩ = some (.string ss) := (hb7.cell (p := ⟨w4.heap.size, 1, none⟩) hz46).trans z1
        have s2 : w7.cell? ⟨w4.heap.size, 2, none⟩ = some (.slice A4 n c4) := (hb7.cell (p := ⟨w4.heap.size, 2, none⟩) hz46).trans z2
        have hz7 : w.heap.size < w7.heap.size := Nat.lt_of_lt_of_le hz6 hb7.size
        clear hown7 hb7 hp7 HU6 HT6 HDI y0 y1 y2 z0 z1 z2
        go_wp2_with fail
        refine (HSA.out _ A4 c4 HP7.out HU7.out).mono ?_
        rintro e w8 ⟨rfl, hb8⟩
        have HB8 := Lib.hid (HB7.out.trans (hb8.mono HB7.out.size))
        have HP8 := Lib.hid ((HP.out.below HB8.out).more HB8.out.size)
        have HV8 := Lib.hid ((HV7.out.below hb8).more hb8.size)
        have q0 : w8.cell? ⟨w.heap.size, 0, none⟩ = some (.string sk) := (hb8.cell (p := ⟨w.heap.size, 0, none⟩) hz7).trans r0
        have q2 : w8.cell? ⟨w.heap.size, 2, none⟩ = some (.slice A n c) := (hb8.cell (p := ⟨w.heap.size, 2, none⟩) hz7).trans r2
        have e1 : (sk.toList == sk.toList) = true := by simp
        clear hb8 HU7 HP7 HV7 HSA r0 r1 r2 s0 s1 s2
        go_wp2_with fail
        refine (HQA.out _ A7 c7 HP8.out HV8.out).mono ?_
        rintro e w9 ⟨rfl, hb9⟩
        have HB9 := Lib.hid (HB8.out.trans (hb9.mono HB8.out.size))
        clear hb9
        go_wp2
        go_ret
        exact ⟨rfl, HB9.out⟩
end Go.Proofs.YtnpgnohlcphfnaaGreatDoor
