/- The walk of DecodeCuts (printed by gen_cuts.py). -/
import Derived.Test.YthidbmeaccpjdaaGreatDoorM25
namespace Go.Proofs.YthidbmeaccpjdaaGreatDoor
open Go.RowKit
set_option linter.unusedVariables false

/-- No byte of a list's first k is one of the marks. -/
def FreeTo (m l : List UInt8) (k : Nat) : Prop := ∀ c ∈ l.take k, c ∉ m
theorem FreeTo.step {m l : List UInt8} {k : Nat} (h : FreeTo m l k) (hk : k < l.length) (hc : l[k] ∉ m) : FreeTo m l (k + 1) := by
  intro c hcm
  rw [List.take_succ_eq_append_getElem hk, List.mem_append] at hcm
  rcases hcm with hcm | hcm
  · exact h c hcm
  · rw [List.mem_singleton] at hcm
    subst hcm
    exact hc
theorem FreeTo.all {m l : List UInt8} {k : Nat} (h : FreeTo m l k) (hk : l.length ≤ k) : ∀ c ∈ l, c ∉ m := by
  intro c hc
  refine h c ?_
  rw [List.take_of_length_le hk]
  exact hc
/-- What both loops have seen. -/
def SeenTo (a b : List UInt8) (k : Nat) : Prop := (0 < k → ∀ c ∈ a, c ∉ ([60, 62, 38] : List UInt8)) ∧ (1 < k → ∀ c ∈ b, c ∉ ([60, 62, 38] : List UInt8))
theorem byte_in {c : UInt8} {x : Int} (hx : (c.toNat : Int) = x) (n : Nat) (hn : n < 256) : c = UInt8.ofNat n ↔ x = (n : Int) := by
  constructor
  · rintro rfl
    rw [← hx, UInt8.toNat_ofNat']
    omega
  · intro h
    apply UInt8.toNat_inj.1
    rw [UInt8.toNat_ofNat']
    omega
set_option maxRecDepth 100000 in
set_option maxHeartbeats 4000000 in
theorem cuts_any (a wi b : List UInt8) (w : World) (ha : a.length ≤ 9223372036854775807) (hwi : wi.length ≤ 9223372036854775807) (hb : b.length ≤ 9223372036854775807) (hT : Tabs w) (hE : EntM w) :
    Calls Tryz.prog 5 #[.string (ba a), .string (ba wi), .string (ba b)] w (LTrue15 w) := by
  have HSM := Lib.hid (small15_any w hT hE)
  have HT := Lib.hid hT
  have HE := Lib.hid hE
  unfold LTrue15 at HSM
  have ka : ((ba a).size : Int) = (a.length : Int) := by rw [ba_size]
  have kw : ((ba wi).size : Int) = (wi.length : Int) := by rw [ba_size]
  have kb : ((ba b).size : Int) = (b.length : Int) := by rw [ba_size]
  clear hT hE ha hwi hb
  by_cases h1 : 1000 < a.length
  · have g1 : (1000 : Int) < (a.length : Int) := by omega
    clear h1
    go_enter Tryz.func5, Tryz.ntmps5
    go_wp2_with fail
    refine HSM.out.mono ?_
    rintro e w1 ⟨rfl, hb1⟩
    have HB1 := Lib.hid hb1
    clear hb1
    go_wp2
    go_ret
    exact ⟨rfl, HB1.out⟩
  have n1 : ¬ (1000 : Int) < (a.length : Int) := by omega
  by_cases h2 : 1000 < wi.length
  · have g1 : (1000 : Int) < (wi.length : Int) := by omega
    clear h1 h2
    go_enter Tryz.func5, Tryz.ntmps5
    go_wp2_with fail
    refine HSM.out.mono ?_
    rintro e w1 ⟨rfl, hb1⟩
    have HB1 := Lib.hid hb1
    clear hb1
    go_wp2
    go_ret
    exact ⟨rfl, HB1.out⟩
  have n2 : ¬ (1000 : Int) < (wi.length : Int) := by omega
  by_cases h3 : 1000 < b.length
  · have g1 : (1000 : Int) < (b.length : Int) := by omega
    clear h1 h2 h3
    go_enter Tryz.func5, Tryz.ntmps5
    go_wp2_with fail
    refine HSM.out.mono ?_
    rintro e w1 ⟨rfl, hb1⟩
    have HB1 := Lib.hid hb1
    clear hb1
    go_wp2
    go_ret
    exact ⟨rfl, HB1.out⟩
  have n3 : ¬ (1000 : Int) < (b.length : Int) := by omega
  go_enter Tryz.func5, Tryz.ntmps5
  go_wp2_with fail
  refine HSM.out.mono ?_
  rintro e w1 ⟨rfl, hb1⟩
  have HB1 := Lib.hid hb1
  clear hb1
  obtain ⟨W1, hW1⟩ : ∃ W, w1.alloc (.cells #[.string (ba a), .string (ba b)] 9) = W := ⟨_, rfl⟩
  have HB2 := Lib.hid (show Below w.heap.size w W1 by rw [← hW1]; exact HB1.out.alloc HB1.out.size _)
  have hx1 := (MapKept.heap_alloc w1 (.cells #[.string (ba a), .string (ba b)] 9)).1
  rw [hW1] at hx1
  have HC := Lib.hid (show ∀ n, n < 2 → ∃ l : List UInt8, W1.cell? ⟨w1.heap.size, n, none⟩ = some (.string (ba l)) ∧ l.length ≤ 1000 ∧ (SeenTo a b n → (∀ c ∈ l, c ∉ ([60, 62, 38] : List UInt8)) → SeenTo a b (n + 1)) from fun n hn => by
    match n, hn with
    | 0, _ => exact ⟨a, cells_at hx1 0 rfl, by omega, fun _ h => ⟨fun _ => h, fun h2 => absurd h2 (by omega)⟩⟩
    | 1, _ => exact ⟨b, cells_at hx1 1 rfl, by omega, fun h h2 => ⟨h.1 |> fun q _ => q (by omega), fun _ => h2⟩⟩)
  clear hx1
  go_wp2_with fail
  clear hW1
  go_loop [9, 10, 32] (fun s i k => ∃ (n : Nat) (v v' : Value), n ≤ 2 ∧ s = v ∧ i = v' ∧ k = .int .i64 (n : Int) ∧ Hid (SeenTo a b n)) (fun _ _ k => 2 - (intOf k).toNat)
  case atStart => exact ⟨0, _, _, by omega, rfl, rfl, rfl, Lib.hid ⟨fun h => absurd h (by omega), fun h => absurd h (by omega)⟩⟩
  case round =>
    obtain ⟨n, v, v', hn, rfl, rfl, rfl, HS⟩ := hrel
    by_cases hlt : n < 2
    · obtain ⟨l, hc, hll, hnx⟩ := HC.out n hlt
      have HNX := Lib.hid (hnx HS.out)
      have hn2 : (n : Int) < 2 := by omega
      have hn0 : (0 : Int) ≤ (n : Int) := by omega
      clear hnx
      go_wp2_with fail
      obtain ⟨m, hn⟩ : ∃ n, l.length = n := ⟨_, rfl⟩
      have HL := Lib.hid hn
      obtain ⟨s, hs⟩ : ∃ s, ba l = s := ⟨_, rfl⟩
      have HS := Lib.hid hs
      have HZ := Lib.hid (show s.size = m by rw [← hs, ba_size, hn])
      have hsz : (s.size : Int) = m := by rw [HZ.out]
      rw [hs]
      rw [hn] at hll
      clear hs hn
      go_loop [10] (fun i => ∃ j : Nat, j ≤ m ∧ i = .int .i64 (j : Int) ∧ Hid (FreeTo [60, 62, 38] l j)) (fun i => m - (intOf i).toNat)
      case atStart => exact ⟨0, Nat.zero_le _, rfl, Lib.hid (by intro c hc; simp at hc)⟩
      case round =>
        obtain ⟨j, hj, rfl, HF⟩ := hrel
        by_cases hjl : j < m
        · have hk2 : (j : Int) < (m : Int) := by omega
          have hk0 : (0 : Int) ≤ (j : Int) := by omega
          have hks : j < s.size := by rw [HZ.out]; omega
          have hkl : j < l.length := by rw [HL.out]; omega
          have hget : s[j] = l[j] := by
            have h := HS.out
            subst h
            rfl
          have HST := Lib.hid (HF.out.step hkl)
          obtain ⟨c, hc⟩ : ∃ c, l[j] = c := ⟨_, rfl⟩
          rw [hc] at hget HST
          obtain ⟨x, hx⟩ : ∃ x : Int, (c.toNat : Int) = x := ⟨_, rfl⟩
          have hgi : ((s[j]).toNat : Int) = x := by rw [hget]; exact hx
          have HX := Lib.hid hx
          have hx0 : 0 ≤ x := by omega
          have hx1 : x ≤ 255 := by have := c.toNat_lt; omega
          clear hc hkl hget hx
          by_cases e1 : x = 60
          · have t1 : (x == 60) = true := by simpa using e1
            clear e1
            go_wp2
            go_ret
            exact ⟨rfl, HB2.out⟩
          have t1 : (x == 60) = false := by simpa using e1
          by_cases e2 : x = 62
          · have t2 : (x == 62) = true := by simpa using e2
            clear e1 e2
            go_wp2
            go_ret
            exact ⟨rfl, HB2.out⟩
          have t2 : (x == 62) = false := by simpa using e2
          by_cases e3 : x = 38
          · have t3 : (x == 38) = true := by simpa using e3
            clear e1 e2 e3
            go_wp2
            go_ret
            exact ⟨rfl, HB2.out⟩
          have t3 : (x == 38) = false := by simpa using e3
          have HV := Lib.hid (HST.out (by
            have q1 : c ≠ 60 := fun h => e1 (by rw [← HX.out, h]; rfl)
            have q2 : c ≠ 62 := fun h => e2 (by rw [← HX.out, h]; rfl)
            have q3 : c ≠ 38 := fun h => e3 (by rw [← HX.out, h]; rfl)
            simp [q1, q2, q3]))
          clear e1 e2 e3
          go_wp2
          go_round
          case rel => exact ⟨j + 1, by omega, by go_num, HV⟩
          case measure => simp [intOf] <;> omega
        · obtain rfl : m = j := by omega
          have HV := Lib.hid (HNX.out (HF.out.all (by rw [HL.out]; exact Nat.le_refl _)))
          go_wp2
          go_round
          case rel => exact ⟨n + 1, _, _, by omega, rfl, rfl, by go_num, HV⟩
          case measure => simp [intOf] <;> omega
    · obtain rfl : n = 2 := by omega
      have HA := Lib.hid (show ∀ c ∈ a, c ≠ 60 ∧ c ≠ 38 from fun c hc => by have h := HS.out.1 (by omega) c hc; simp at h; exact ⟨h.1, h.2.2⟩)
      have HBB := Lib.hid (show ∀ c ∈ b, c ≠ 60 ∧ c ≠ 38 from fun c hc => by have h := HS.out.2 (by omega) c hc; simp at h; exact ⟨h.1, h.2.2⟩)
      clear HS HC
      go_wp2_with fail
      have hwl : wi.length ≤ 1000 := by omega
      obtain ⟨m, hnwi⟩ : ∃ n, wi.length = n := ⟨_, rfl⟩
      have HLwi := Lib.hid hnwi
      obtain ⟨t, hswi⟩ : ∃ s, ba wi = s := ⟨_, rfl⟩
      have HSwi := Lib.hid hswi
      have HZwi := Lib.hid (show t.size = m by rw [← hswi, ba_size, hnwi])
      have hszwi : (t.size : Int) = m := by rw [HZwi.out]
      rw [hswi]
      rw [hnwi] at hwl
      clear hswi hnwi
      go_loop [11] (fun i => ∃ j : Nat, j ≤ m ∧ i = .int .i64 (j : Int) ∧ Hid (FreeTo [60, 45] wi j)) (fun i => m - (intOf i).toNat)
      case atStart => exact ⟨0, Nat.zero_le _, rfl, Lib.hid (by intro c hc; simp at hc)⟩
      case round =>
        obtain ⟨j, hj, rfl, HF⟩ := hrel
        by_cases hjl : j < m
        · have hk2wi : (j : Int) < (m : Int) := by omega
          have hk0wi : (0 : Int) ≤ (j : Int) := by omega
          have hkswi : j < t.size := by rw [HZwi.out]; omega
          have hklwi : j < wi.length := by rw [HLwi.out]; omega
          have hgetwi : t[j] = wi[j] := by
            have h := HSwi.out
            subst h
            rfl
          have HST := Lib.hid (HF.out.step hklwi)
          obtain ⟨c, hcwi⟩ : ∃ c, wi[j] = c := ⟨_, rfl⟩
          rw [hcwi] at hgetwi HST
          obtain ⟨x, hxwi⟩ : ∃ x : Int, (c.toNat : Int) = x := ⟨_, rfl⟩
          have hgiwi : ((t[j]).toNat : Int) = x := by rw [hgetwi]; exact hxwi
          have HXwi := Lib.hid hxwi
          have hx0wi : 0 ≤ x := by omega
          have hx1wi : x ≤ 255 := by have := c.toNat_lt; omega
          clear hcwi hklwi hgetwi hxwi
          by_cases e1 : x = 60
          · have t1 : (x == 60) = true := by simpa using e1
            clear e1
            go_wp2
            go_ret
            exact ⟨rfl, HB2.out⟩
          have t1 : (x == 60) = false := by simpa using e1
          by_cases e2 : x = 45
          · have t2 : (x == 45) = true := by simpa using e2
            clear e1 e2
            go_wp2
            go_ret
            exact ⟨rfl, HB2.out⟩
          have t2 : (x == 45) = false := by simpa using e2
          have HV := Lib.hid (HST.out (by
            have q1 : c ≠ 60 := fun h => e1 (by rw [← HXwi.out, h]; rfl)
            have q2 : c ≠ 45 := fun h => e2 (by rw [← HXwi.out, h]; rfl)
            simp [q1, q2]))
          clear e1 e2
          go_wp2
          go_round
          case rel => exact ⟨j + 1, by omega, by go_num, HV⟩
          case measure => simp [intOf] <;> omega
        · obtain rfl : m = j := by omega
          have HWW := Lib.hid (show ∀ c ∈ wi, c ≠ 60 ∧ c ≠ 45 from fun c hc => by have h := HF.out.all (by rw [HLwi.out]; exact Nat.le_refl _) c hc; simp at h; exact h)
          have HX0 := Lib.hid (show ∀ W, Below w.heap.size w W → Calls Tryz.prog 21 #[.string (ba a ++ ba b)] W fun e w' => e = .returned (.string (ba a ++ ba b)) ∧ Below W.heap.size W w' from fun W hW => by
            have h := strip_any (a ++ b) W (by simp; omega) (HT.out.below hW) (HE.out.below hW)
            rw [strip_plain _ (fun c hc => (List.mem_append.1 hc).elim (HA.out c) (HBB.out c))] at h
            unfold StrB at h
            simp only [← ba_append] at h
            exact h)
          have HX1 := Lib.hid (show ∀ W, Below w.heap.size w W → Calls Tryz.prog 21 #[.string (ba a ++ ⟨#[60, 33, 45, 45]⟩ ++ t ++ ⟨#[45, 45, 62]⟩ ++ ba b)] W fun e w' => e = .returned (.string (ba a ++ ba b)) ∧ Below W.heap.size W w' from fun W hW => by
            have h := strip_any ((((a ++ [60, 33, 45, 45]) ++ wi) ++ [45, 45, 62]) ++ b) W (by simp; omega) (HT.out.below hW) (HE.out.below hW)
            rw [strip_note a wi b HA.out HWW.out HBB.out] at h
            unfold StrB at h
            simp only [← ba_append] at h
            rw [HSwi.out] at h
            exact h)
          have HX2 := Lib.hid (show ∀ W, Below w.heap.size w W → Calls Tryz.prog 21 #[.string (ba a ++ ⟨#[60, 83, 99, 114, 105, 112, 116, 32, 120, 62]⟩ ++ t ++ ⟨#[60, 47, 115, 67, 82, 73, 80, 84, 62]⟩ ++ ba b)] W fun e w' => e = .returned (.string (ba a ++ ba b)) ∧ Below W.heap.size W w' from fun W hW => by
            have h := strip_any ((((a ++ [60, 83, 99, 114, 105, 112, 116, 32, 120, 62]) ++ wi) ++ [60, 47, 115, 67, 82, 73, 80, 84, 62]) ++ b) W (by simp; omega) (HT.out.below hW) (HE.out.below hW)
            rw [strip_script a wi b HA.out (fun h => (HWW.out _ h).1 rfl) HBB.out] at h
            unfold StrB at h
            simp only [← ba_append] at h
            rw [HSwi.out] at h
            exact h)
          have HX3 := Lib.hid (show ∀ W, Below w.heap.size w W → Calls Tryz.prog 21 #[.string (ba a ++ ⟨#[60, 80, 62]⟩ ++ ba b)] W fun e w' => e = .returned (.string (ba a ++ ⟨#[10]⟩ ++ ba b)) ∧ Below W.heap.size W w' from fun W hW => by
            have h := strip_any ((a ++ [60, 80, 62]) ++ b) W (by simp; omega) (HT.out.below hW) (HE.out.below hW)
            rw [strip_par a b HA.out HBB.out] at h
            unfold StrB at h
            simp only [← ba_append] at h
            exact h)
          have HX4 := Lib.hid (show ∀ W, Below w.heap.size w W → Calls Tryz.prog 21 #[.string (ba a ++ ⟨#[60, 47, 98, 32, 99, 62]⟩ ++ ba b)] W fun e w' => e = .returned (.string (ba a ++ ba b)) ∧ Below W.heap.size W w' from fun W hW => by
            have h := strip_any ((a ++ [60, 47, 98, 32, 99, 62]) ++ b) W (by simp; omega) (HT.out.below hW) (HE.out.below hW)
            rw [strip_bold a b HA.out HBB.out] at h
            unfold StrB at h
            simp only [← ba_append] at h
            exact h)
          have HX5 := Lib.hid (show ∀ W, Below w.heap.size w W → Calls Tryz.prog 21 #[.string (ba a ++ ⟨#[60, 115, 116, 121, 108, 101, 62]⟩ ++ t)] W fun e w' => e = .returned (.string (ba a)) ∧ Below W.heap.size W w' from fun W hW => by
            have h := strip_any ((a ++ [60, 115, 116, 121, 108, 101, 62]) ++ wi) W (by simp; omega) (HT.out.below hW) (HE.out.below hW)
            rw [strip_style a wi HA.out (fun h => (HWW.out _ h).1 rfl)] at h
            unfold StrB at h
            simp only [← ba_append] at h
            rw [HSwi.out] at h
            exact h)
          have sa : (ba a).size ≤ 1000 := by rw [ba_size]; omega
          have sb : (ba b).size ≤ 1000 := by rw [ba_size]; omega
          have st : t.size ≤ 1000 := by rw [HZwi.out]; omega
          clear HF HSM ka kw kb
          obtain ⟨A, hA⟩ : ∃ A, ba a = A := ⟨_, rfl⟩
          obtain ⟨Bq, hBq⟩ : ∃ A, ba b = A := ⟨_, rfl⟩
          rw [hA] at HX0
          rw [hA] at HX1
          rw [hA] at HX2
          rw [hA] at HX3
          rw [hA] at HX4
          rw [hA] at HX5
          rw [hBq] at HX0
          rw [hBq] at HX1
          rw [hBq] at HX2
          rw [hBq] at HX3
          rw [hBq] at HX4
          rw [hA] at sa
          rw [hBq] at sb
          rw [hA, hBq]
          clear hA hBq
          have HQ := Lib.hid (show Below w.heap.size w W1 from HB2.out)
          go_wp2_with fail
          refine (HX0.out _ HQ.out).mono ?_
          rintro e v0 ⟨rfl, hb0⟩
          have HQ0 := Lib.hid (HQ.out.trans (hb0.mono HQ.out.size))
          clear hb0
          go_wp2_with fail
          refine (HX1.out _ HQ0.out).mono ?_
          rintro e v1 ⟨rfl, hb1⟩
          have HQ1 := Lib.hid (HQ0.out.trans (hb1.mono HQ0.out.size))
          clear hb1
          go_wp2_with fail
          refine (HX2.out _ HQ1.out).mono ?_
          rintro e v2 ⟨rfl, hb2⟩
          have HQ2 := Lib.hid (HQ1.out.trans (hb2.mono HQ1.out.size))
          clear hb2
          go_wp2_with fail
          refine (HX3.out _ HQ2.out).mono ?_
          rintro e v3 ⟨rfl, hb3⟩
          have HQ3 := Lib.hid (HQ2.out.trans (hb3.mono HQ2.out.size))
          clear hb3
          go_wp2_with fail
          refine (HX4.out _ HQ3.out).mono ?_
          rintro e v4 ⟨rfl, hb4⟩
          have HQ4 := Lib.hid (HQ3.out.trans (hb4.mono HQ3.out.size))
          clear hb4
          go_wp2_with fail
          refine (HX5.out _ HQ4.out).mono ?_
          rintro e v5 ⟨rfl, hb5⟩
          have HQ5 := Lib.hid (HQ4.out.trans (hb5.mono HQ4.out.size))
          clear hb5
          go_wp2
          go_ret
          exact ⟨rfl, HQ5.out⟩
end Go.Proofs.YthidbmeaccpjdaaGreatDoor
