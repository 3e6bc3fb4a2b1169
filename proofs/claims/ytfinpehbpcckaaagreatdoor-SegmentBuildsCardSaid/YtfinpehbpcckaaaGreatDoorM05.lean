/- Layer 2: the contracts of the program's reader. Layer 2: the program's reader of lists of integers. Layer 33: the contract of the program's Decode. -/
import Derived.Test.YtfinpehbpcckaaaGreatDoorM01
import Derived.Test.YtfinpehbpcckaaaGreatDoorM03
import Derived.Test.YtfinpehbpcckaaaGreatDoorM04
section
namespace Go.Proofs.YtfinpehbpcckaaaGreatDoor
open Go.RowKit
set_option linter.unusedVariables false

/-- The reader at block b is in state r. -/
def RdIn (w : World) (b : Nat) (r : Rd) : Prop := w.heap[b]? = some (.cells #[.string (ba r.s), .bool r.bad] 128 (0, 0)) ∧ r.s.length ≤ maxLen
theorem RdIn.lt {w : World} {b : Nat} {r : Rd} (h : RdIn w b r) : b < w.heap.size := heap_lt h.1
theorem RdIn.c0 {w : World} {b : Nat} {r : Rd} (h : RdIn w b r) : w.cell? ⟨b, 0, none⟩ = some (.string (ba r.s)) := by simp [World.cell?, h.1]
theorem RdIn.c1 {w : World} {b : Nat} {r : Rd} (h : RdIn w b r) : w.cell? ⟨b, 1, none⟩ = some (.bool r.bad) := by simp [World.cell?, h.1]
theorem RdIn.fr {w : World} {b : Nat} {r : Rd} (h : RdIn w b r) (j : Nat) : w.frozen? ⟨b, j, none⟩ = false := by simp [World.frozen?, h.1]
theorem RdIn.block {w w' : World} {b : Nat} {r : Rd} (h : RdIn w b r) (e : w'.heap[b]? = w.heap[b]?) : RdIn w' b r := ⟨e.trans h.1, h.2⟩
theorem RdIn.set0 {w : World} {b : Nat} {r : Rd} (h : RdIn w b r) {l : List UInt8} (hl : l.length ≤ r.s.length) : RdIn (w.setCell ⟨b, 0, none⟩ (.string (ba l))) b ⟨l, r.bad⟩ :=
  ⟨heap_setCell_same w b 0 _ 128 _ h.1, Nat.le_trans hl h.2⟩

def FailPost (w : World) (b : Nat) (e : Ending) (w' : World) : Prop := e = .returned (.tuple #[]) ∧ RdIn w' b Rd.fails ∧ Off (· = b) w w'
theorem rd_fail (b : Nat) (r : Rd) (w : World) (h : RdIn w b r) : Calls Tryz.prog 101 #[.pointer (some ⟨b, 0, none⟩)] w (FailPost w b) := by
  have H := Lib.hid h
  have c0 := h.c0
  have c1 := h.c1
  have f0 := h.fr 0
  have f1 := h.fr 1
  clear h
  go_enter Tryz.func101, Tryz.ntmps101
  go_wp2
  go_end0
  refine ⟨rfl, ⟨?_, by simp [Rd.fails]⟩, ((Off.refl (· = b) w).setCell (p := ⟨b, 0, none⟩) (.inl rfl) _).setCell (p := ⟨b, 1, none⟩) (.inl rfl) _⟩
  exact heap_setCell_same _ b 1 _ 128 _ (heap_setCell_same w b 0 _ 128 _ H.out.1)

theorem rd_left (b : Nat) (r : Rd) (w : World) (h : RdIn w b r) : Calls Tryz.prog 57 #[.pointer (some ⟨b, 0, none⟩)] w fun e w' => e = .returned (.int .i64 (r.s.length : Nat)) ∧ w = w' := by
  have c0 := h.c0
  have HS := Lib.hid (ba_size r.s)
  generalize ba r.s = s at c0 HS
  clear h
  go_enter Tryz.func57, Tryz.ntmps57
  go_wp2
  go_ret
  exact ⟨congrArg (fun n : Nat => Ending.returned (.int .i64 (n : Int))) HS.out, rfl⟩

theorem rd_done (b : Nat) (r : Rd) (w : World) (h : RdIn w b r) : Calls Tryz.prog 59 #[.pointer (some ⟨b, 0, none⟩)] w fun e w' => e = .returned (.bool r.done) ∧ w = w' := by
  obtain ⟨l, bad⟩ := r
  have c0 := h.c0
  have c1 := h.c1
  have HS := Lib.hid (ba_size l)
  dsimp only at c0 c1
  generalize ba l = s at c0 HS
  clear h
  cases bad with
  | true =>
    go_enter Tryz.func59, Tryz.ntmps59
    go_wp2
    go_ret
    exact ⟨rfl, rfl⟩
  | false =>
    by_cases h0 : s.size = 0
    · have hd : ((s.size : Int) == 0) = true := by simpa using h0
      have H0 := Lib.hid h0
      clear h0
      go_enter Tryz.func59, Tryz.ntmps59
      go_wp2
      go_ret
      have : l = [] := List.eq_nil_of_length_eq_zero (HS.out.symm.trans H0.out)
      exact ⟨by rw [this]; rfl, rfl⟩
    · have hd : ((s.size : Int) == 0) = false := by simpa using h0
      have H0 := Lib.hid h0
      clear h0
      go_enter Tryz.func59, Tryz.ntmps59
      go_wp2
      go_ret
      refine ⟨?_, rfl⟩
      cases l with
      | nil => exact absurd HS.out H0.out
      | cons a t => rfl

def OpenPost (w : World) (l : List UInt8) (e : Ending) (w' : World) : Prop := ∃ b, w.heap.size ≤ b ∧ e = .returned (.pointer (some ⟨b, 0, none⟩)) ∧ RdIn w' b ⟨l, false⟩ ∧ Below w.heap.size w w'
theorem rd_open (l : List UInt8) (w : World) (h : l.length ≤ maxLen) : Calls Tryz.prog 54 #[.string (ba l)] w (OpenPost w l) := by
  generalize hs : ba l = s
  have HS := Lib.hid hs
  have HL := Lib.hid h
  clear hs h
  go_enter Tryz.func54, Tryz.ntmps54
  go_wp2
  go_ret
  refine ⟨w.heap.size, Nat.le_refl _, rfl, ⟨?_, HL.out⟩, (Below.refl _ _).alloc (Nat.le_refl _) _⟩
  rw [(MapKept.heap_alloc w _).1, HS.out]

theorem num_sum {l : List UInt8} {k : Nat} (hkl : k < l.length) (h9 : k < 9) : 0 ≤ (l[k].toNat : Int) % 128 * 2 ^ (7 * k) ∧ (l[k].toNat : Int) % 128 * 2 ^ (7 * k) ≤ 9223372036854775807 ∧
    ((val (l.take k) : Nat) : Int) + (l[k].toNat : Int) % 128 * 2 ^ (7 * k) ≤ 9223372036854775807 := by
  have e1 : (2 : Int) ^ (7 * k) = ((128 ^ k : Nat) : Int) := by
    rw [Int.pow_mul]
    simp
  have e2 : (l[k].toNat : Int) % 128 * 2 ^ (7 * k) = ((128 ^ k * (l[k].toNat % 128) : Nat) : Int) := by
    rw [e1, Int.natCast_mul, Int.mul_comm]; rfl
  have h1 := val_lt (l.take (k + 1))
  rw [val_take hkl, List.length_take, Nat.min_eq_left (by omega)] at h1
  have h2 : (128 : Nat) ^ (k + 1) ≤ 128 ^ 9 := Nat.pow_le_pow_right (by omega) (by omega)
  have e : (128 : Nat) ^ 9 = 9223372036854775808 := rfl
  rw [e2]
  omega
theorem num_pow (k : Nat) : (2 : Int) ^ (7 * k) = ((128 ^ k : Nat) : Int) := by rw [Int.pow_mul]; simp
def NumPost (w : World) (b : Nat) (r : Rd) (e : Ending) (w' : World) : Prop := e = .returned (.int .i64 (r.num.1 : Nat)) ∧ RdIn w' b r.num.2 ∧ Off (· = b) w w'
set_option maxRecDepth 100000 in
set_option maxHeartbeats 1000000 in
theorem rd_num (b : Nat) (r : Rd) (w : World) (h : RdIn w b r) : Calls Tryz.prog 56 #[.pointer (some ⟨b, 0, none⟩)] w (NumPost w b r) := by
  obtain ⟨l, bad⟩ := r
  have H := Lib.hid h
  have c0 := h.c0
  have f0 := h.fr 0
  have hm := h.2
  dsimp only at c0 hm
  obtain ⟨s, hs⟩ : ∃ s, ba l = s := ⟨_, rfl⟩
  have hsz : s.size = l.length := by rw [← hs, ba_size]
  rw [hs] at c0
  rw [← hsz] at hm
  have HS := Lib.hid hs
  have HSZ := Lib.hid hsz
  unfold maxLen at hm
  clear h hs hsz
  go_enter Tryz.func56, Tryz.ntmps56
  go_wp2
  go_loop [3, 4] (fun n i => ∃ k : Nat, k ≤ hi l ∧ k ≤ s.size ∧ k ≤ 9 ∧ i = .int .i64 (k : Int) ∧ n = .int .i64 ((val (l.take k) : Nat) : Int)) (fun _ i => 10 - (intOf i).toNat)
  case atStart => exact ⟨0, Nat.zero_le _, Nat.zero_le _, by omega, rfl, rfl⟩
  case round =>
    obtain ⟨k, hk, hks, hk9, rfl, rfl⟩ := hrel
    by_cases hlt : k < s.size
    · by_cases h9 : k < 9
      · have hkl : k < l.length := by rw [← HSZ.out]; exact hlt
        have hv := val_lt (l.take k)
        have hv2 := val_take hkl
        have hk1 : (k : Int) < s.size := by omega
        have hk2 : (k : Int) < 9 := by omega
        have hc := hi_step hkl hk
        have hget : s[k] = l[k] := by have := HS.out; subst this; rfl
        have HV := Lib.hid hv
        have HV2 := Lib.hid hv2
        have HC := Lib.hid hc
        have HG := Lib.hid hget
        clear hv hv2 hc hget
        have h7 : (0 : Int) ≤ 7 * (k : Int) := by omega
        have h7' : 7 * (k : Int) ≤ 64 := by omega
        have hu0 : (0 : Int) ≤ (s[k].toNat : Int) := by omega
        have hu1 : (s[k].toNat : Int) ≤ 255 := by have := s[k].toNat_lt; omega
        have hv0 : (0 : Int) ≤ ((val (l.take k) : Nat) : Int) := by omega
        obtain ⟨hp0, hp1, hp2⟩ := num_sum hkl h9
        rw [← HG.out] at hp0 hp1 hp2
        have HSUM := Lib.hid (show (((val (l.take k) : Nat) : Int) + (s[k].toNat : Int) % 128 * 2 ^ (7 * k)) = ((val (l.take (k + 1)) : Nat) : Int) by
          rw [HV2.out, HG.out, num_pow k]
          rw [Int.natCast_add, Int.natCast_mul, Int.mul_comm]; rfl)
        by_cases hb : 128 ≤ (s[k].toNat : Int)
        · have hb2 : 128 ≤ l[k].toNat := by rw [← HG.out]; omega
          go_wp2_with fail
          go_round
          case rel =>
            exact ⟨k + 1, HC.out.1 hb2, by omega, by omega, by go_num, by rw [HSUM.out]⟩
          case measure => simp [intOf] <;> omega
        · have hhi : k = hi l := HC.out.2 (by rw [← HG.out]; omega)
          have HHI := Lib.hid hhi
          have hb3 : (s[k].toNat : Int) < 128 := by omega
          clear hhi
          by_cases hz : k > 0 ∧ (s[k].toNat : Int) = 0
          · have hk0 : (0 : Int) < k := by omega
            have hz1 : ((s[k].toNat : Int) == 0) = true := by simpa using hz.2
            have HZ := Lib.hid hz
            clear hz
            go_wp2_with fail
            refine (rd_fail b _ w H.out).mono ?_
            rintro e w1 ⟨rfl, hr, hO⟩
            have HF := Lib.hid (And.intro hr hO)
            clear hr hO
            go_wp2
            go_ret
            have e : Rd.num ⟨l, bad⟩ = (0, Rd.fails) := by
              unfold Rd.num
              rw [rnum_zero (l := l) (by rw [← HHI.out]; exact hkl) (by have := HZ.out.1; have := HHI.out; omega) (by
                have h1 := HZ.out.2; rw [HG.out] at h1
                have h2 := HHI.out
                subst h2; omega)]
            exact ⟨by rw [e]; rfl, by rw [e]; exact HF.out.1, HF.out.2⟩
          · have hok : rnum l = some (val (l.take (k + 1)), l.drop (k + 1)) := by
              have h2 := HHI.out
              have hc1 : k = 0 ∨ l[k].toNat ≠ 0 := by
                rw [HG.out] at hz
                omega
              clear hz HSUM hp0 hp1 hp2 hu0 hu1 hb hb3 HG HV HV2
              subst h2
              exact rnum_some hkl (by omega) hc1
            have e : Rd.num ⟨l, bad⟩ = (val (l.take (k + 1)), ⟨l.drop (k + 1), bad⟩) := by
              unfold Rd.num
              rw [hok]
            have hcut : s.extract (k + 1) s.size = ba (l.drop (k + 1)) := by rw [← HS.out]; exact ba_drop _ _
            have HE := Lib.hid e
            have HCUT := Lib.hid hcut
            have hk4 : (k : Int) + 1 ≤ s.size := by omega
            clear hok e hcut
            have fin : NumPost w b ⟨l, bad⟩ (.returned (.int .i64 (((val (l.take k) : Nat) : Int) + (s[k].toNat : Int) % 128 * 2 ^ (7 * k)))) (w.setCell ⟨b, 0, none⟩ (.string (s.extract (k + 1) s.size))) := by
              unfold NumPost
              rw [HE.out, HSUM.out, HCUT.out]
              exact ⟨rfl, H.out.set0 (by simp), (Off.refl (· = b) w).setCell (p := ⟨b, 0, none⟩) (.inl rfl) _⟩
            have FIN := Lib.hid fin
            clear fin
            by_cases hz0 : (s[k].toNat : Int) = 0
            · have hk0 : k = 0 := by omega
              have hd : decide (0 < k) = false := by simp; omega
              have hz1 : ((s[k].toNat : Int) == 0) = true := by simpa using hz0
              have HZ := Lib.hid (And.intro hz0 hk0)
              clear hz hz0 hk0
              go_wp2_with fail
              go_ret
              exact FIN.out
            · have hz1 : ((s[k].toNat : Int) == 0) = false := by simpa using hz0
              have HZ := Lib.hid hz0
              clear hz hz0
              go_wp2_with fail
              go_ret
              exact FIN.out
      · have hk9' : k = 9 := by omega
        have hd9 : decide (k < 9) = false := by simp; omega
        have hk1 : (k : Int) < s.size := by omega
        have e : Rd.num ⟨l, bad⟩ = (0, Rd.fails) := by
          unfold Rd.num
          rw [rnum_long (l := l) (by show 8 < hi l; omega)]
        have HE := Lib.hid e
        clear e
        go_wp2_with fail
        refine (rd_fail b _ w H.out).mono ?_
        rintro e w1 ⟨rfl, hr, hO⟩
        have HF := Lib.hid (And.intro hr hO)
        clear hr hO
        go_wp2
        go_ret
        exact ⟨by rw [HE.out]; rfl, by rw [HE.out]; exact HF.out.1, HF.out.2⟩
    · have hge : k = s.size := by omega
      have hd1 : decide (k < s.size) = false := by simp; omega
      have e : Rd.num ⟨l, bad⟩ = (0, Rd.fails) := by
        unfold Rd.num
        rw [rnum_short (l := l) (by have := HSZ.out; show l.length ≤ hi l; omega)]
      have HE := Lib.hid e
      clear e
      go_wp2_with fail
      refine (rd_fail b _ w H.out).mono ?_
      rintro e w1 ⟨rfl, hr, hO⟩
      have HF := Lib.hid (And.intro hr hO)
      clear hr hO
      go_wp2
      go_ret
      exact ⟨by rw [HE.out]; rfl, by rw [HE.out]; exact HF.out.1, HF.out.2⟩

def TakePost (w : World) (b : Nat) (r : Rd) (n : Int) (e : Ending) (w' : World) : Prop := e = .returned (.string (ba (r.take n).1)) ∧ RdIn w' b (r.take n).2 ∧ Off (· = b) w w'
set_option maxRecDepth 100000 in
theorem rd_take (b : Nat) (r : Rd) (n : Int) (w : World) (h : RdIn w b r) : Calls Tryz.prog 102 #[.pointer (some ⟨b, 0, none⟩), .int .i64 n] w (TakePost w b r n) := by
  obtain ⟨l, bad⟩ := r
  have H := Lib.hid h
  have c0 := h.c0
  have c1 := h.c1
  have f0 := h.fr 0
  have hm := h.2
  dsimp only at c0 c1 hm
  obtain ⟨s, hs⟩ : ∃ s, ba l = s := ⟨_, rfl⟩
  have hsz : s.size = l.length := by rw [← hs, ba_size]
  rw [hs] at c0
  rw [← hsz] at hm
  have HS := Lib.hid hs
  have HSZ := Lib.hid hsz
  unfold maxLen at hm
  clear h hs hsz
  by_cases hf : n < 0 ∨ (s.size : Int) < n ∨ bad = true
  · have e : Rd.take ⟨l, bad⟩ n = ([], Rd.fails) := by
      unfold Rd.take
      rw [if_pos]
      show n < 0 ∨ (l.length : Int) < n ∨ bad = true
      rw [← HSZ.out]; exact hf
    have HE := Lib.hid e
    clear e
    have fin : ∀ w', RdIn w' b Rd.fails → Off (· = b) w w' → TakePost w b ⟨l, bad⟩ n (.returned (.string ⟨#[]⟩)) w' := fun w' h1 h2 => by
      unfold TakePost
      rw [HE.out]
      exact ⟨rfl, h1, h2⟩
    have FIN := Lib.hid fin
    clear fin
    by_cases h1 : n < 0
    · clear hf
      go_enter Tryz.func102, Tryz.ntmps102
      go_wp2_with fail
      refine (rd_fail b _ w H.out).mono ?_
      rintro e w1 ⟨rfl, hr, hO⟩
      have HF := Lib.hid (FIN.out w1 hr hO)
      clear hr hO
      go_wp2
      go_ret
      exact HF.out
    · have h1' : ¬ n < 0 := h1
      by_cases h2 : (s.size : Int) < n
      · clear hf
        go_enter Tryz.func102, Tryz.ntmps102
        go_wp2_with fail
        refine (rd_fail b _ w H.out).mono ?_
        rintro e w1 ⟨rfl, hr, hO⟩
        have HF := Lib.hid (FIN.out w1 hr hO)
        clear hr hO
        go_wp2
        go_ret
        exact HF.out
      · obtain rfl : bad = true := by rcases hf with h | h | h; exact absurd h h1; exact absurd h h2; exact h
        clear hf
        go_enter Tryz.func102, Tryz.ntmps102
        go_wp2_with fail
        refine (rd_fail b _ w H.out).mono ?_
        rintro e w1 ⟨rfl, hr, hO⟩
        have HF := Lib.hid (FIN.out w1 hr hO)
        clear hr hO
        go_wp2
        go_ret
        exact HF.out
  · obtain rfl : bad = false := by cases bad with | false => rfl | true => exact absurd (.inr (.inr rfl)) hf
    have h1 : ¬ n < 0 := fun h => hf (.inl h)
    have h2 : ¬ (s.size : Int) < n := fun h => hf (.inr (.inl h))
    clear hf
    obtain ⟨k, rfl⟩ : ∃ k : Nat, n = (k : Int) := ⟨n.toNat, by omega⟩
    have hk : (k : Int) ≤ s.size := by omega
    have e : Rd.take ⟨l, false⟩ (k : Int) = (l.take k, ⟨l.drop k, false⟩) := by
      unfold Rd.take
      rw [if_neg]
      · simp
      · show ¬ ((k : Int) < 0 ∨ (l.length : Int) < (k : Int) ∨ false = true)
        have := HSZ.out
        simp
        omega
    have hcut : s.extract k s.size = ba (l.drop k) := by rw [← HS.out]; exact ba_drop _ _
    have hhead : s.extract 0 k = ba (l.take k) := by rw [← HS.out, ba_cut]; rfl
    have fin : TakePost w b ⟨l, false⟩ (k : Int) (.returned (.string (s.extract 0 k))) (w.setCell ⟨b, 0, none⟩ (.string (s.extract k s.size))) := by
      unfold TakePost
      rw [e, hcut, hhead]
      exact ⟨rfl, H.out.set0 (by simp), (Off.refl (· = b) w).setCell (p := ⟨b, 0, none⟩) (.inl rfl) _⟩
    have FIN := Lib.hid fin
    clear e hcut hhead fin
    go_enter Tryz.func102, Tryz.ntmps102
    go_wp2
    go_ret
    exact FIN.out

def TextPost (w : World) (b : Nat) (r : Rd) (e : Ending) (w' : World) : Prop := e = .returned (.string (ba r.text.1)) ∧ RdIn w' b r.text.2 ∧ Off (· = b) w w'
theorem rd_text (b : Nat) (r : Rd) (w : World) (h : RdIn w b r) : Calls Tryz.prog 58 #[.pointer (some ⟨b, 0, none⟩)] w (TextPost w b r) := by
  have H := Lib.hid h
  clear h
  go_enter Tryz.func58, Tryz.ntmps58
  go_wp2_with fail
  refine (rd_num b r w H.out).mono ?_
  rintro e w1 ⟨rfl, hr, hO⟩
  obtain ⟨k, hk⟩ : ∃ k, r.num.1 = k := ⟨_, rfl⟩
  rw [hk]
  have HK := Lib.hid hk
  have HR := Lib.hid (And.intro hr hO)
  clear hk hr hO
  go_wp2_with fail
  refine (rd_take b _ (k : Int) w1 HR.out.1).mono ?_
  rintro e w2 ⟨rfl, hr, hO⟩
  have HR2 := Lib.hid (And.intro hr hO)
  clear hr hO
  go_wp2
  go_ret
  unfold TextPost Rd.text
  rw [HK.out]
  exact ⟨rfl, HR2.out.1, HR.out.2.trans HR2.out.2⟩
end Go.Proofs.YtfinpehbpcckaaaGreatDoor
end
section
namespace Go.Proofs.YtfinpehbpcckaaaGreatDoor
open Go.RowKit
set_option linter.unusedVariables false

/-- The state at the loop's head: k numbers to go. -/
def DecRel (w : World) (b : Nat) (r1 : Rd) (N k : Nat) (v : Value) (wr : World) : Prop :=
  ∃ acc r, OwnInts wr w.heap.size v acc ∧ acc.length ≤ k ∧ RdIn wr b r ∧ Off (· = b) w wr ∧ ((r.bad = false ∧ Rd.loop (N - k) r acc = Rd.loop N r1 []) ∨ (r.bad = true ∧ Rd.loop N r1 [] = ([], r)))
def NumsPost (w : World) (b : Nat) (r : Rd) (e : Ending) (w' : World) : Prop := ∃ v, e = .returned v ∧ OwnInts w' w.heap.size v r.nums.1 ∧ RdIn w' b r.nums.2 ∧ Off (· = b) w w'
set_option maxRecDepth 100000 in
set_option maxHeartbeats 2000000 in
theorem decode_ints (b : Nat) (r : Rd) (w : World) (h : RdIn w b r) (hlen : r.s.length ≤ 1000000000) :
    Calls Tryz.prog 100 #[.pointer (some ⟨b, 0, none⟩), .func (.func 56) #[.pointer (some ⟨b, 0, none⟩)] #[]] w (NumsPost w b r) := by
  have hbw := h.lt
  have H := Lib.hid h
  have hnb := r.num_bound
  clear h
  go_enter Tryz.func100, Tryz.ntmps100
  go_wp2_with fail
  refine (rd_num b r w H.out).mono ?_
  rintro e w1 ⟨rfl, hr, hO⟩
  obtain ⟨N, hN⟩ : ∃ k, r.num.1 = k := ⟨_, rfl⟩
  obtain ⟨r1, hr1⟩ : ∃ k, r.num.2 = k := ⟨_, rfl⟩
  rw [hN] at hnb ⊢
  rw [hr1] at hr hnb
  have HN := Lib.hid hN
  have HR1 := Lib.hid hr1
  have HR := Lib.hid hr
  have HO := Lib.hid hO
  have c0 := hr.c0
  have hsz := ba_size r1.s
  obtain ⟨s, hs⟩ : ∃ s, ba r1.s = s := ⟨_, rfl⟩
  rw [hs] at c0 hsz
  have HS := Lib.hid hsz
  have hnl := hnb.2
  rw [← hsz] at hnl
  clear hN hr1 hr hO hsz hs hnb
  by_cases hgt : (s.size : Int) < (N : Int)
  · have e : r.nums = ([], Rd.fails) := by
      unfold Rd.nums
      rw [HR1.out, HN.out, if_pos (by rw [← HS.out]; omega)]
    have HE := Lib.hid e
    clear e
    go_wp2_with fail
    refine (rd_fail b _ w1 HR.out).mono ?_
    rintro e w2 ⟨rfl, hr, hO⟩
    have HF := Lib.hid (And.intro hr (HO.out.trans hO))
    have c1 := hr.c1
    dsimp only [Rd.fails] at c1
    clear hr hO c0
    go_wp2
    go_loopw [6, 7] (fun v i wr => v = .slice none 0 0 ∧ i = .int .i64 0 ∧ Hid (wr = w2)) (fun _ _ _ => 0)
    case atStart => exact ⟨rfl, rfl, rfl⟩
    case round =>
      obtain ⟨rfl, rfl, hw⟩ := hrel
      have := hw.out
      subst this
      go_wp2
      go_ret
      refine ⟨_, rfl, ?_, ?_, HF.out.2⟩
      · rw [HE.out]; exact OwnInts.nil_ _ _
      · rw [HE.out]; exact HF.out.1
  · have hle : N ≤ s.size := by omega
    have hN9 : N ≤ 1000000000 := by omega
    have e : r.nums = if r1.bad = true then ([], r1) else Rd.loop N r1 [] := by
      unfold Rd.nums
      rw [HR1.out, HN.out, if_neg (by rw [← HS.out]; omega)]
    have HE := Lib.hid e
    have hst : DecRel w b r1 N 0 (.slice none 0 0) w1 ∨ (r1.bad = true) := by
      cases hb : r1.bad with
      | false => exact .inl ⟨[], r1, OwnInts.nil_ _ _, Nat.le_refl _, HR.out, HO.out, .inl ⟨hb, rfl⟩⟩
      | true => exact .inr rfl
    have HST := Lib.hid hst
    clear e hst
    cases hb1 : r1.bad with
    | true =>
      have c1 := HR.out.c1
      rw [hb1] at c1
      have HB1 := Lib.hid hb1
      have hd : decide (s.size < N) = false := by simp; omega
      clear hb1 hgt
      go_wp2
      go_loopw [6, 7] (fun v i wr => v = .slice none 0 0 ∧ i = .int .i64 0 ∧ Hid (wr = w1)) (fun _ _ _ => 0)
      case atStart => exact ⟨rfl, rfl, rfl⟩
      case round =>
        obtain ⟨rfl, rfl, hw⟩ := hrel
        have := hw.out
        subst this
        by_cases h0 : 0 < N
        all_goals
          go_wp2
          go_ret
          refine ⟨_, rfl, ?_, ?_, HO.out⟩
          · rw [HE.out, if_pos HB1.out]; exact OwnInts.nil_ _ _
          · rw [HE.out, if_pos HB1.out]; exact HR.out
    | false =>
      have HB1 := Lib.hid hb1
      have HST1 := Lib.hid (show DecRel w b r1 N 0 (.slice none 0 0) w1 from HST.out.resolve_right (by rw [hb1]; decide))
      have hd : decide (s.size < N) = false := by simp; omega
      clear hb1 hgt
      go_wp2
      go_loopw [6, 7] (fun v i wr => ∃ k : Nat, k ≤ N ∧ i = .int .i64 (k : Int) ∧ Hid (DecRel w b r1 N k v wr)) (fun _ i _ => N - (intOf i).toNat)
      case atStart => exact ⟨0, Nat.zero_le _, rfl, HST1.out⟩
      case round =>
        obtain ⟨k, hk, rfl, HD⟩ := hrel
        obtain ⟨acc, rc, hown, hacc, hrc, hoff, hor⟩ := HD.out
        have c1 := hrc.c1
        have HOWN := Lib.hid hown
        have HACC := Lib.hid hacc
        have HRC := Lib.hid hrc
        have HOFF := Lib.hid hoff
        have HOR := Lib.hid hor
        clear HD hown hacc hrc hoff hor
        cases hbad : rc.bad with
        | true =>
          rw [hbad] at c1
          have hor := HOR.out.resolve_left fun h => by rw [hbad] at h; exact absurd h.1 (by decide)
          have HL := Lib.hid hor.2
          clear hbad hor
          by_cases hlt : k < N
          all_goals
            go_wp2
            go_ret
            refine ⟨_, rfl, ?_, ?_, HOFF.out⟩
            · rw [HE.out, if_neg (by rw [HB1.out]; decide), HL.out]; exact OwnInts.nil_ _ _
            · rw [HE.out, if_neg (by rw [HB1.out]; decide), HL.out]; exact HRC.out
        | false =>
          rw [hbad] at c1
          have hor := (HOR.out.resolve_right fun h => by rw [hbad] at h; exact absurd h.1 (by decide)).2
          have HL := Lib.hid hor
          have HBAD := Lib.hid hbad
          clear hbad hor
          by_cases hlt : k < N
          · have hlt2 : (k : Int) < (N : Int) := by omega
            go_wp2_with fail
            refine (rd_num b rc wr HRC.out).mono ?_
            rintro e w3 ⟨rfl, hr, hO⟩
            have hnb := rc.num_bound
            obtain ⟨y, hy⟩ : ∃ k, rc.num.1 = k := ⟨_, rfl⟩
            obtain ⟨r2, hr2⟩ : ∃ k, rc.num.2 = k := ⟨_, rfl⟩
            rw [hy] at hnb ⊢
            rw [hr2] at hr
            have hown3 := HOWN.out.block (w' := w3) fun g hg => hO.block g (HOWN.out.1.lt g hg).2 fun e => by have h1 := (HOWN.out.1.lt g hg).1; have e' : g = b := e; omega
            have hs3 := Nat.le_trans HOFF.out.size hO.size
            have HOWN3 := Lib.hid hown3
            have HR3 := Lib.hid hr
            have HO3 := Lib.hid (HOFF.out.trans hO)
            have HY := Lib.hid hy
            have HR2 := Lib.hid hr2
            have hy2 := hnb.1
            have hal : acc.length < 1099511627776 := by have := HACC.out; omega
            have HAL := Lib.hid hal
            clear hown3 hr hO hy hr2 hnb hal c1
            go_wp2_with (at_builtin; go_must (refine wpList_push HOWN3.out hs3 (by omega) HAL.out rfl (.tmp 31) (.tmp 34) 26 1 rfl Tryz.underlying26 rfl rfl ?_); intro v' w4 hown1 hg1 hat1; have H1 := Lib.hid hown1; have H2 := Lib.hid hg1; clear hown1 hg1 hat1)
            go_roundw
            case rel =>
              have hb4 : w4.heap[b]? = w3.heap[b]? := H2.out.block b HR3.out.lt fun e => by have := (HOWN3.out.1.lt b e.symm).1; omega
              refine ⟨k + 1, by omega, by go_num, acc ++ [(y : Int)], r2, H1.out, by rw [List.length_append]; simp; exact HACC.out, HR3.out.block hb4, HO3.out.grown H2.out fun g e => .inr (HOWN3.out.1.lt g e).1, ?_⟩
              have hstep : Rd.loop (N - k) rc acc = if rc.num.2.bad = true then ([], rc.num.2) else Rd.loop (N - (k + 1)) rc.num.2 (acc ++ [(rc.num.1 : Int)]) := by
                rw [show N - k = (N - (k + 1)) + 1 by omega]; rfl
              rw [HR2.out, HY.out] at hstep
              cases hb2 : r2.bad with
              | true =>
                rw [if_pos hb2] at hstep
                exact .inr ⟨rfl, HL.out.symm.trans hstep⟩
              | false =>
                rw [if_neg (by rw [hb2]; decide)] at hstep
                exact .inl ⟨rfl, hstep.symm.trans HL.out⟩
            case measure => simp [intOf] <;> omega
          · obtain rfl : k = N := by omega
            go_wp2
            go_ret
            have hfin := HL.out
            rw [Nat.sub_self] at hfin
            refine ⟨_, rfl, ?_, ?_, HOFF.out⟩
            · rw [HE.out, if_neg (by rw [HB1.out]; decide), ← hfin]; exact HOWN.out
            · rw [HE.out, if_neg (by rw [HB1.out]; decide), ← hfin]; exact HRC.out

theorem rd_nums (b : Nat) (r : Rd) (w : World) (h : RdIn w b r) (hlen : r.s.length ≤ 1000000000) : Calls Tryz.prog 55 #[.pointer (some ⟨b, 0, none⟩)] w (NumsPost w b r) := by
  have H := Lib.hid h
  clear h
  go_enter Tryz.func55, Tryz.ntmps55
  go_wp2_with fail
  refine (decode_ints b r w H.out hlen).mono ?_
  rintro e w1 ⟨v, rfl, h1, h2, h3⟩
  have H1 := Lib.hid (And.intro h1 (And.intro h2 h3))
  clear h1 h2 h3
  go_wp2
  go_ret
  exact ⟨v, rfl, H1.out⟩
end Go.Proofs.YtfinpehbpcckaaaGreatDoor
end
section
namespace Go.Proofs.YtfinpehbpcckaaaGreatDoor
open Go.RowKit
set_option linter.unusedVariables false

theorem int_eq {a b : Int} (h : a = b) : Value.int .i64 a = Value.int .i64 b := by rw [h]
/-- Blocks of other cells are none of the row's. -/
theorem OwnPosts.notAt {w : World} {B b : Nat} {v : Value} {ps : List (Post × Value)} (h : OwnPosts w B v ps) {cs : Array Value} {t : TypeId} (hb : w.heap[b]? = some (.cells cs t (0, 0))) (ht : t ≠ 52) (hc : ∀ (j : Nat) (i : Int), cs[j]? ≠ some (Value.int .i64 i)) :
    (∀ g, v.ownBlock = some g → g ≠ b) ∧ ∀ p, p ∈ ps → p.1.places ≠ [] → ∀ ad n c, p.2 = .slice (some ad) n c → ad.block ≠ b := by
  refine ⟨fun g e eb => ?_, fun p hm hne ad n c e eb => ?_⟩
  · subst eb
    rcases h.row.2 with ⟨rfl, _⟩ | ⟨g', cap, cur, rfl, _, hg, _⟩
    · cases e
    · have e2 : g' = g := Option.some.inj e
      subst e2
      rw [hg] at hb
      injection hb with hb
      injection hb with _ hb
      exact ht hb.symm
  · obtain ⟨X, x, c', e', _, _, _, h4, _⟩ := h.each p hm
    rw [e'] at e
    injection e with e1 e2 e3
    subst e1
    have hpos : 0 < x := by rw [h4.1]; exact List.length_pos_iff.2 hne
    obtain ⟨ad', e4, _, hcell⟩ := h4.at_ hpos
    have e5 := Option.some.inj e4
    subst e5
    have hadd : ad.add 0 = ad := by unfold Addr.add; rfl
    rw [hadd] at hcell
    unfold World.cell? at hcell
    rw [eb, hb] at hcell
    simp at hcell
    exact hc _ _ hcell.2
theorem OwnPosts.notRd {w : World} {B b : Nat} {v : Value} {ps : List (Post × Value)} {r : Rd} (h : OwnPosts w B v ps) (hr : RdIn w b r) :
    (∀ g, v.ownBlock = some g → g ≠ b) ∧ ∀ p, p ∈ ps → p.1.places ≠ [] → ∀ ad n c, p.2 = .slice (some ad) n c → ad.block ≠ b := by
  refine h.notAt hr.1 (by decide) fun j i e => ?_
  match j, e with
  | 0, e => simp at e
  | 1, e => simp at e
  | j + 2, e => simp at e
theorem OwnPosts.placesLt {w : World} {B : Nat} {v : Value} {ps : List (Post × Value)} (h : OwnPosts w B v ps) : ∀ p, p ∈ ps → p.1.places ≠ [] → ∀ ad n c, p.2 = .slice (some ad) n c → ad.block < w.heap.size := by
  intro p hm hne ad n c e
  obtain ⟨X, x, c', e', _, _, _, h4, _⟩ := h.each p hm
  rw [e'] at e
  injection e with e1 e2 e3
  subst e1
  have hpos : 0 < x := by rw [h4.1]; exact List.length_pos_iff.2 hne
  obtain ⟨ad', e4, hlt, _⟩ := h4.at_ hpos
  have e5 := Option.some.inj e4
  subst e5
  exact hlt

def stepV (n : Int) (k : Nat) : Int := (stepP n k).getD 0
theorem stepV_bd {n : Int} {k : Nat} (h0 : 0 ≤ n) : 0 ≤ stepV n k ∧ stepV n k ≤ 1099511627777 := by
  unfold stepV stepP
  have hf : far = 1099511627776 := rfl
  rw [hf]
  simp only [Option.getD_some]
  split <;> omega
theorem gPlaces_go {k : Nat} {r : Rd} {a : Int} {acc : List Int} (hs : r.s ≠ []) : gPlaces stepP (k + 1) r a acc = gPlaces stepP k r.num.2 (stepV a r.num.1) (acc ++ [stepV a r.num.1]) := by
  conv => lhs; unfold gPlaces
  rw [if_neg hs]; rfl
theorem gPlaces_end {k : Nat} {r : Rd} {a : Int} {acc : List Int} (h : k = 0 ∨ r.s = []) : gPlaces stepP k r a acc = some (acc, r) := by
  cases k with
  | zero => rfl
  | succ k =>
    unfold gPlaces
    rw [if_pos]
    rcases h with h | h
    · omega
    · exact h
theorem gPosts_go {k : Nat} {r r3 : Rd} {d : Int} {acc : List Post} {pl : List Int} (hs : r.s ≠ []) (hp : gPlaces stepP r.num.2.num.1 r.num.2.num.2 0 [] = some (pl, r3)) :
    gPosts stepP (k + 1) r d acc = gPosts stepP k r3 (stepV d r.num.1) (acc ++ [⟨stepV d r.num.1, pl⟩]) := by
  conv => lhs; unfold gPosts
  rw [if_neg hs]
  show (match gPlaces stepP r.num.2.num.1 r.num.2.num.2 0 [] with | none => none | some (pl, r3) => _) = _
  rw [hp]; rfl
theorem gPosts_end {k : Nat} {r : Rd} {d : Int} {acc : List Post} (h : k = 0 ∨ r.s = []) : gPosts stepP k r d acc = some (acc, r) := by
  cases k with
  | zero => rfl
  | succ k =>
    unfold gPosts
    rw [if_pos]
    rcases h with h | h
    · omega
    · exact h

def DecPost (w : World) (l : List UInt8) (e : Ending) (w' : World) : Prop :=
  Below w.heap.size w w' ∧ ((postDec l = none ∧ e = .returned (.tuple #[.slice none 0 0, .bool false])) ∨ ∃ v ps, postDec l = some (ps.map (·.1)) ∧ e = .returned (.tuple #[v, .bool true]) ∧ OwnPosts w' w.heap.size v ps)
/-- The state at the outer loop's head: k postings to go. -/
def PDecRel (w : World) (b : Nat) (r1 : Rd) (N L k : Nat) (v : Value) (d : Int) (wr : World) : Prop :=
  ∃ r ps, RdIn wr b r ∧ OwnPosts wr w.heap.size v ps ∧ Below w.heap.size w wr ∧ gPosts stepP k r d (ps.map (·.1)) = gPosts stepP N r1 0 [] ∧ ps.length + r.s.length ≤ L
/-- The state at the inner loop's head: t positions to go. -/
def PInRel (w3 : World) (b pb : Nat) (y : Int) (r3 : Rd) (N L t : Nat) (z : Int) (wr : World) : Prop :=
  ∃ r acc va, RdIn wr b r ∧ wr.heap[pb]? = some (.cells #[.int .i64 y, va] 52 (0, 0)) ∧ OwnInts wr (pb + 1) va acc ∧ Off (fun k => k = b ∨ pb ≤ k) w3 wr ∧ gPlaces stepP t r z acc = gPlaces stepP N r3 0 [] ∧ acc.length + r.s.length ≤ L

set_option maxRecDepth 100000 in
set_option maxHeartbeats 4000000 in
theorem decode_any (l : List UInt8) (w : World) (hlen : l.length ≤ 1000000) : Calls Tryz.prog 105 #[.string (ba l)] w (DecPost w l) := by
  obtain ⟨s, hs⟩ : ∃ x, ba l = x := ⟨_, rfl⟩
  have HOP := Lib.hid (rd_open l w (by unfold maxLen; omega))
  rw [hs] at HOP
  rw [hs]
  have HS := Lib.hid hs
  clear hs
  go_enter Tryz.func105, Tryz.ntmps105
  go_wp2_with fail
  refine HOP.out.mono ?_
  rintro e w1 ⟨b, hwb, rfl, hr, hb1⟩
  have HR0 := Lib.hid hr
  have HB1 := Lib.hid hb1
  clear hr hb1 HOP
  go_wp2_with fail
  refine (rd_num b _ w1 HR0.out).mono ?_
  rintro e w2 ⟨rfl, hr, hO⟩
  have hnb := Rd.num_bound ⟨l, false⟩
  obtain ⟨N, hN⟩ : ∃ k, (Rd.num ⟨l, false⟩).1 = k := ⟨_, rfl⟩
  obtain ⟨r1, hr1⟩ : ∃ k, (Rd.num ⟨l, false⟩).2 = k := ⟨_, rfl⟩
  rw [hN] at hnb ⊢
  rw [hr1] at hr hnb
  have hN2 := hnb.1
  have HNB := Lib.hid (show r1.s.length ≤ 1000000 from Nat.le_trans hnb.2 hlen)
  have HN := Lib.hid hN
  have HR1 := Lib.hid hr1
  have HR := Lib.hid hr
  have HB2 := Lib.hid (HB1.out.trans (hO.below (B := w.heap.size) (by have := HB1.out.size; omega) fun k e => by subst e; exact hwb))
  have HST := Lib.hid (show PDecRel w b r1 N 1000000 N (.slice none 0 0) 0 w2 from ⟨r1, [], HR.out, OwnPosts.nil_ _ _, HB2.out, rfl, by simpa using HNB.out⟩)
  clear hN hr1 hr hO hnb
  go_wp2
  go_loopw [5, 6, 7] (fun v0 d i wr => ∃ (k : Nat) (x : Int) (v : Value), v = v0 ∧ k ≤ N ∧ i = .int .i64 (k : Int) ∧ d = .int .i64 x ∧ 0 ≤ x ∧ x ≤ 1099511627777 ∧ Hid (PDecRel w b r1 N 1000000 k v x wr)) (fun _ _ i _ => (intOf i).toNat)
  case atStart => exact ⟨N, 0, _, rfl, Nat.le_refl _, rfl, rfl, Int.le_refl _, by omega, HST.out⟩
  case round =>
    obtain ⟨k, x, v, rfl, hk, rfl, rfl, hx0, hx1, HD⟩ := hrel
    obtain ⟨r, ps, hrd, hown, hbel, heq, hll⟩ := HD.out
    obtain ⟨q, hq⟩ : ∃ q, r.s.length = q := ⟨_, rfl⟩
    have HRD := Lib.hid hrd
    have HOWN := Lib.hid hown
    have HBEL := Lib.hid hbel
    have HEQ := Lib.hid heq
    have hbw := hrd.lt
    rw [hq] at hll
    have HQ := Lib.hid hq
    clear HD hrd hown hbel heq hq
    by_cases hgo : 0 < k ∧ 0 < q
    · have hk0 : (0 : Int) < (k : Int) := by omega
      have hq0 : (0 : Int) < (q : Int) := by omega
      have HNE := Lib.hid (show r.s ≠ [] by intro e; have := HQ.out; rw [e] at this; simp at this; omega)
      go_wp2_with fail
      refine (rd_left b r wr HRD.out).mono ?_
      rintro e w3 ⟨rfl, rfl⟩
      rw [HQ.out]
      go_wp2_with fail
      refine (rd_num b r wr HRD.out).mono ?_
      rintro e w3 ⟨rfl, hr3, hO3⟩
      have hnb := r.num_bound
      obtain ⟨n1, hn1⟩ : ∃ k, r.num.1 = k := ⟨_, rfl⟩
      obtain ⟨r2, hr2⟩ : ∃ k, r.num.2 = k := ⟨_, rfl⟩
      have hlt2 := r.num_less HNE.out
      rw [hn1] at hnb ⊢
      rw [hr2] at hr3 hnb hlt2
      rw [HQ.out] at hlt2
      have hn1b := hnb.1
      have HN1 := Lib.hid hn1
      have HR2 := Lib.hid hr2
      have HR3 := Lib.hid hr3
      have HO3 := Lib.hid hO3
      clear hn1 hr2 hr3 hO3 hnb
      go_wp2_with fail
      refine (step_any x n1 w3 hx0 hx1 (by omega)).mono ?_
      rintro e w4 ⟨rfl, rfl⟩
      obtain ⟨y, hy⟩ : ∃ y, (stepP x n1).getD 0 = y := ⟨_, rfl⟩
      have hyb : 0 ≤ y ∧ y ≤ 1099511627777 := by rw [← hy]; exact stepV_bd hx0
      rw [hy]
      have HY := Lib.hid (show stepV x n1 = y from hy)
      clear hy
      have HOWN3 := Lib.hid (show OwnPosts w3 w.heap.size v ps from HOWN.out.off HO3.out (fun g e eb => (HOWN.out.notRd HRD.out).1 g e eb) (fun p hm hne ad n c e eb => (HOWN.out.notRd HRD.out).2 p hm hne ad n c e eb))
      have HB3 := Lib.hid (HBEL.out.trans (HO3.out.below (B := w.heap.size) HBEL.out.size fun k e => by subst e; exact hwb))
      obtain ⟨pb, hpb⟩ : ∃ q, w3.heap.size = q := ⟨_, rfl⟩
      have hbp : b < pb := by rw [← hpb]; exact HR3.out.lt
      have hwp : w.heap.size ≤ pb := by omega
      have HPB := Lib.hid hpb
      have HBOX := Lib.hid (show (w3.alloc (.cells #[.int .i64 y, .slice none 0 0] 52)).heap[pb]? = some (.cells #[.int .i64 y, .slice none 0 0] 52 (0, 0)) by rw [← hpb]; exact (MapKept.heap_alloc w3 _).1)
      have HRA := Lib.hid (show RdIn (w3.alloc (.cells #[.int .i64 y, .slice none 0 0] 52)) b r2 from HR3.out.block (heap_alloc_old w3 _ HR3.out.lt))
      have HOA := Lib.hid (show Off (fun k => k = b ∨ pb ≤ k) w3 (w3.alloc (.cells #[.int .i64 y, .slice none 0 0] 52)) from (Off.refl _ _).alloc _)
      clear hpb
      go_wp2_with fail
      refine (rd_num b r2 _ HRA.out).mono ?_
      rintro e w5 ⟨rfl, hr5, hO5⟩
      have hnb := r2.num_bound
      obtain ⟨n2, hn2⟩ : ∃ k, r2.num.1 = k := ⟨_, rfl⟩
      obtain ⟨r3, hr3⟩ : ∃ k, r2.num.2 = k := ⟨_, rfl⟩
      rw [hn2] at hnb ⊢
      rw [hr3] at hr5 hnb
      have hn2b := hnb.1
      have hl3 := hnb.2
      obtain ⟨m3, hm3⟩ : ∃ m, r3.s.length = m := ⟨_, rfl⟩
      have hm3q : m3 < q := by omega
      have HN2 := Lib.hid hn2
      have HR3' := Lib.hid hr3
      rw [HPB.out]
      have HIN := Lib.hid (show PInRel w3 b pb y r3 n2 m3 n2 0 w5 from ⟨r3, [], _, hr5, (hO5.block pb (heap_lt HBOX.out) (by show ¬ pb = b; omega)).trans HBOX.out, OwnInts.nil_ _ _, HOA.out.trans (hO5.mono fun k _ e => .inl e), rfl, by simp; omega⟩)
      clear hn2 hr3 hr5 hO5 hnb hl3 hm3
      go_wp2
      go_loopw [9, 10] (fun a i wr' => ∃ (t : Nat) (z : Int), t ≤ n2 ∧ i = .int .i64 (t : Int) ∧ a = .int .i64 z ∧ 0 ≤ z ∧ z ≤ 1099511627777 ∧ Hid (PInRel w3 b pb y r3 n2 m3 t z wr')) (fun _ i _ => (intOf i).toNat)
      case atStart => exact ⟨n2, 0, Nat.le_refl _, rfl, rfl, Int.le_refl _, by omega, HIN.out⟩
      case round =>
        obtain ⟨t, z, ht, rfl, rfl, hz0, hz1, HI⟩ := hrel
        obtain ⟨rr, acc, va, hrd, hbox, hva, hoff, heq, hli⟩ := HI.out
        obtain ⟨u, hu⟩ : ∃ u, rr.s.length = u := ⟨_, rfl⟩
        have HRI := Lib.hid hrd
        have HBX := Lib.hid hbox
        have HVA := Lib.hid hva
        have HOF := Lib.hid hoff
        have HEI := Lib.hid heq
        rw [hu] at hli
        have HU := Lib.hid hu
        have hwsz : pb < wr.heap.size := heap_lt hbox
        clear HI hrd hbox hva hoff heq hu
        by_cases hin : 0 < t ∧ 0 < u
        · have ht0 : (0 : Int) < (t : Int) := by omega
          have hu0 : (0 : Int) < (u : Int) := by omega
          have HNI := Lib.hid (show rr.s ≠ [] by intro e; have := HU.out; rw [e] at this; simp at this; omega)
          go_wp2_with fail
          refine (rd_left b rr wr HRI.out).mono ?_
          rintro e w6 ⟨rfl, rfl⟩
          rw [HU.out]
          go_wp2_with fail
          refine (rd_num b rr wr HRI.out).mono ?_
          rintro e w6 ⟨rfl, hr6, hO6⟩
          have hnb := rr.num_bound
          obtain ⟨n4, hn4⟩ : ∃ k, rr.num.1 = k := ⟨_, rfl⟩
          obtain ⟨r4, hr4⟩ : ∃ k, rr.num.2 = k := ⟨_, rfl⟩
          have hlt4 := rr.num_less HNI.out
          rw [hn4] at hnb ⊢
          rw [hr4] at hr6 hlt4
          rw [HU.out] at hlt4
          have hn4b := hnb.1
          have HN4 := Lib.hid hn4
          have HR4 := Lib.hid hr4
          have HR6 := Lib.hid hr6
          have HO6 := Lib.hid hO6
          clear hn4 hr4 hr6 hO6 hnb
          go_wp2_with fail
          refine (step_any z n4 w6 hz0 hz1 (by omega)).mono ?_
          rintro e w7 ⟨rfl, rfl⟩
          obtain ⟨z2, hz2⟩ : ∃ y, (stepP z n4).getD 0 = y := ⟨_, rfl⟩
          have hzb : 0 ≤ z2 ∧ z2 ≤ 1099511627777 := by rw [← hz2]; exact stepV_bd hz0
          rw [hz2]
          have HZ := Lib.hid (show stepV z n4 = z2 from hz2)
          clear hz2
          have HVA6 := Lib.hid (HVA.out.block (w' := w6) fun g hg => HO6.out.block g (HVA.out.1.lt g hg).2 fun e => by have h1 := (HVA.out.1.lt g hg).1; have e' : g = b := e; omega)
          have HBX6 := Lib.hid ((HO6.out.block pb hwsz (by show ¬ pb = b; omega)).trans HBX.out)
          have HO6' := Lib.hid (show Off (fun k => k = b ∨ pb ≤ k) w3 w6 from HOF.out.trans (HO6.out.mono fun k _ e => .inl e))
          have hs6 : pb + 1 ≤ w6.heap.size := by have := HO6.out.size; omega
          have d1 : w6.cell? ⟨pb, 1, none⟩ = some va := by simp [World.cell?, HBX6.out]
          have hal : acc.length < 1099511627776 := by omega
          have HAL := Lib.hid hal
          clear hal
          go_wp2_with (at_builtin; go_must (refine wpList_push HVA6.out hs6 (by omega) HAL.out rfl (.tmp 46) (.tmp 48) 26 1 rfl Tryz.underlying26 rfl rfl ?_); intro v' w8 hown1 hg1 hat1; obtain ⟨ao, cap, rfl, -, -, -⟩ := hown1.ints; have H1 := Lib.hid hown1; have H2 := Lib.hid hg1; have HBX8 := Lib.hid ((hg1.block pb (by omega) fun e => by have := (HVA6.out.1.lt pb e.symm).1; omega).trans HBX6.out); have e1 : w8.cell? ⟨pb, 1, none⟩ = some va := (by simp [World.cell?, HBX8.out]); have ef : w8.frozen? ⟨pb, 1, none⟩ = false := (by simp [World.frozen?, HBX8.out]); clear hown1 hg1 hat1)
          go_roundw
          case rel =>
            have hb8 : w8.heap[b]? = w6.heap[b]? := H2.out.block b HR6.out.lt fun e => by have := (HVA6.out.1.lt b e.symm).1; omega
            refine ⟨t - 1, z2, by omega, int_eq (by omega), rfl, by omega, by omega, r4, acc ++ [z2], .slice ao (acc.length + 1) cap, ?_, ?_, ?_, ?_, ?_, ?_⟩
            · exact (HR6.out.block hb8).block (heap_setCell_other w8 ⟨pb, 1, none⟩ b _ (by show ¬ b = pb; omega))
            · exact heap_setCell_same w8 pb 1 _ 52 _ HBX8.out
            · have h1' := H1.out
              rw [show (acc ++ [z2]).length = acc.length + 1 by simp] at h1'
              exact h1'.block fun g hg => heap_setCell_other w8 ⟨pb, 1, none⟩ g _ (by have := (h1'.1.lt g hg).1; show ¬ g = pb; omega)
            · exact (HO6'.out.grown H2.out fun g e => .inl (.inr (by have := (HVA6.out.1.lt g e).1; omega))).setCell (p := ⟨pb, 1, none⟩) (.inl (.inr (Nat.le_refl _))) _
            · rw [← HEI.out]
              have := gPlaces_go (k := t - 1) (a := z) (acc := acc) HNI.out
              rw [HN4.out, HR4.out, HZ.out, show t - 1 + 1 = t by omega] at this
              exact this.symm
            · rw [List.length_append]; simp; omega
          case measure => simp [intOf] <;> omega
        · have HE := Lib.hid (gPlaces_end (a := z) (acc := acc) (show t = 0 ∨ rr.s = [] by
            by_cases h0 : t = 0
            · exact .inl h0
            · right; refine List.eq_nil_of_length_eq_zero ?_; rw [HU.out]; omega))
          have HGP := Lib.hid (show gPlaces stepP r.num.2.num.1 r.num.2.num.2 0 [] = some (acc, rr) by rw [HR2.out, HN2.out, HR3'.out, ← HEI.out, HE.out])
          obtain ⟨X, cx, rfl, hx1, hx2, hxi⟩ := HVA.out.ints
          obtain ⟨xn, hxn⟩ : ∃ x, acc.length = x := ⟨_, rfl⟩
          have HACC := Lib.hid hxn
          have d0 : wr.cell? ⟨pb, 0, none⟩ = some (.int .i64 y) := by simp [World.cell?, HBX.out]
          have d1 : wr.cell? ⟨pb, 1, none⟩ = some (.slice X acc.length cx) := by simp [World.cell?, HBX.out]
          have HOWNR := Lib.hid (show OwnPosts wr w.heap.size v ps from HOWN3.out.off HOF.out (fun g e eb => by
              rcases eb with eb | eb
              · exact (HOWN3.out.notRd HR3.out).1 g e eb
              · have := (HOWN3.out.row.lt g e).2; have := HPB.out; omega) (fun p hm hne ad n c e eb => by
              rcases eb with eb | eb
              · exact (HOWN3.out.notRd HR3.out).2 p hm hne ad n c e eb
              · have := HOWN3.out.placesLt p hm hne ad n c e; have := HPB.out; omega))
          have HPL := Lib.hid (show PlacesIn wr v.ownBlock (⟨y, acc⟩, .slice X acc.length cx) from ⟨X, acc.length, cx, rfl, hx1, hx2, ⟨by show -9223372036854775808 ≤ y; omega, by show y ≤ 9223372036854775807; omega⟩, hxi, fun hne ad e1 e2 => by
            have hpos : 0 < acc.length := List.length_pos_iff.2 hne
            obtain ⟨g, cap, e3, -, -⟩ := HVA.out.1.form hpos
            injection e3 with e3
            have h5 := (HVA.out.1.lt g (by rw [e3]; rfl)).1
            rw [e1] at e3
            injection e3 with e3
            subst e3
            have h6 := (HOWN3.out.row.lt _ e2).2
            have h7 : g < pb := by rw [← HPB.out]; exact h6
            omega⟩)
          have HBR := Lib.hid (HB3.out.trans (HOF.out.below (B := w.heap.size) HB3.out.size fun k e => by rcases e with e | e <;> omega))
          have hBs : w.heap.size ≤ wr.heap.size := by omega
          have HPLEN := Lib.hid (show ps.length ≤ 1000000000 by omega)
          rw [hxn] at d1 HPL hli
          clear hx1 hx2 hxi hxn
          by_cases ht0 : 0 < t
          · have ht1 : (0 : Int) < (t : Int) := by omega
            have hu0 : ¬ (0 : Int) < (u : Int) := by omega
            clear hin
            go_wp2_with fail
            refine (rd_left b rr wr HRI.out).mono ?_
            rintro e w6 ⟨rfl, rfl⟩
            rw [HU.out]
            go_wp2_with (at_builtin; go_must (refine wpList_pushPost HOWNR.out hBs HPL.out HPLEN.out rfl (.tmp 51) (.tmp 53) 1 rfl rfl rfl ?_); intro v' w8 hown1 hg1; have H1 := Lib.hid hown1; have H2 := Lib.hid hg1; clear hown1 hg1)
            go_roundw
            case rel =>
              refine ⟨k - 1, y, _, rfl, by omega, int_eq (by omega), rfl, hyb.1, hyb.2, rr, ps ++ [(⟨y, acc⟩, .slice X xn cx)], ?_, H1.out, ?_, ?_, ?_⟩
              · exact HRI.out.block (H2.out.block b HRI.out.lt fun e => (HOWNR.out.notRd HRI.out).1 b e.symm rfl)
              · exact HBR.out.grown H2.out hBs fun g e => (HOWNR.out.row.lt g e).1
              · rw [← HEQ.out]
                have := gPosts_go (k := k - 1) (d := x) (acc := ps.map (·.1)) HNE.out HGP.out
                rw [HN1.out, HY.out, show k - 1 + 1 = k by omega] at this
                rw [this, List.map_append]; rfl
              · rw [List.length_append, HU.out]; simp; omega
            case measure => simp [intOf] <;> omega
          · have ht1 : ¬ (0 : Int) < (t : Int) := by omega
            clear hin
            go_wp2_with (at_builtin; go_must (refine wpList_pushPost HOWNR.out hBs HPL.out HPLEN.out rfl (.tmp 51) (.tmp 53) 1 rfl rfl rfl ?_); intro v' w8 hown1 hg1; have H1 := Lib.hid hown1; have H2 := Lib.hid hg1; clear hown1 hg1)
            go_roundw
            case rel =>
              refine ⟨k - 1, y, _, rfl, by omega, int_eq (by omega), rfl, hyb.1, hyb.2, rr, ps ++ [(⟨y, acc⟩, .slice X xn cx)], ?_, H1.out, ?_, ?_, ?_⟩
              · exact HRI.out.block (H2.out.block b HRI.out.lt fun e => (HOWNR.out.notRd HRI.out).1 b e.symm rfl)
              · exact HBR.out.grown H2.out hBs fun g e => (HOWNR.out.row.lt g e).1
              · rw [← HEQ.out]
                have := gPosts_go (k := k - 1) (d := x) (acc := ps.map (·.1)) HNE.out HGP.out
                rw [HN1.out, HY.out, show k - 1 + 1 = k by omega] at this
                rw [this, List.map_append]; rfl
              · rw [List.length_append, HU.out]; simp; omega
            case measure => simp [intOf] <;> omega
    · have HE := Lib.hid (gPosts_end (d := x) (acc := ps.map (·.1)) (show k = 0 ∨ r.s = [] by
        by_cases h0 : k = 0
        · exact .inl h0
        · right; refine List.eq_nil_of_length_eq_zero ?_; rw [HQ.out]; omega))
      have hgp : gPosts stepP N r1 0 [] = some (ps.map (·.1), r) := by rw [← HEQ.out, HE.out]
      have HDEC := Lib.hid (show postDec l = if r.done = true ∧ postEnc (ps.map (·.1)) = l then some (ps.map (·.1)) else none by unfold postDec gDec; rw [HN.out, HR1.out, hgp])
      have hls := gPosts_len N r1 0 [] (ps.map (·.1)) r hgp
      have HFEW := Lib.hid (show FewPosts (ps.map (·.1)) from ⟨by have := HNB.out; have := hls.1; simp only [List.length_nil] at this; omega, fun p hp => by
        have := HNB.out
        rcases hls.2 p hp with h | h
        · cases h
        · omega⟩)
      obtain ⟨A, cap, rfl, hp1, hp2, hP⟩ := HOWN.out.posts
      obtain ⟨pn, hpn⟩ : ∃ x, ps.length = x := ⟨_, rfl⟩
      rw [hpn] at hP hp1 hll ⊢
      have HPN := Lib.hid hpn
      have HP := Lib.hid hP
      clear hgp hls hP hpn
      by_cases hk0 : 0 < k
      · have hk1 : (0 : Int) < (k : Int) := by omega
        have hq0 : ¬ (0 : Int) < (q : Int) := by omega
        clear hgo
        go_wp2_with fail
        refine (rd_left b r wr HRD.out).mono ?_
        rintro e w6 ⟨rfl, rfl⟩
        rw [HQ.out]
        go_wp2_with fail
        refine (rd_done b r wr HRD.out).mono ?_
        rintro e w6 ⟨rfl, rfl⟩
        cases hd : r.done with
        | false =>
          have HNO := Lib.hid (show postDec l = none by rw [HDEC.out, hd]; simp)
          clear hd
          go_wp2
          go_ret2
          exact ⟨HBEL.out, .inl ⟨HNO.out, rfl⟩⟩
        | true =>
          have HDN := Lib.hid hd
          clear hd
          go_wp2_with fail
          refine (encode_any A pn cap (ps.map (·.1)) wr HP.out HFEW.out).mono ?_
          rintro e w7 ⟨rfl, hb7⟩
          have HB7 := Lib.hid hb7
          obtain ⟨t, ht⟩ : ∃ t, ba (postEnc (ps.map (·.1))) = t := ⟨_, rfl⟩
          rw [ht]
          have HT := Lib.hid ht
          clear hb7 ht
          by_cases hts : t = s
          · subst hts
            have HYES := Lib.hid (show postDec l = some (ps.map (·.1)) by rw [HDEC.out, if_pos ⟨HDN.out, ba_inj.1 (HT.out.trans HS.out.symm)⟩])
            go_wp2
            go_ret2
            exact ⟨HBEL.out.trans (HB7.out.mono HBEL.out.size), .inr ⟨_, ps, HYES.out, by rw [HPN.out]; rfl, HOWN.out.below HB7.out⟩⟩
          · have HNO := Lib.hid (show postDec l = none by rw [HDEC.out, if_neg]; rintro ⟨_, e⟩; exact hts (by rw [← HT.out, ← HS.out, e]))
            have hts2 : ¬ t.toList = s.toList := by rw [← HT.out, ← HS.out, ba_toList, ba_toList]; intro e; exact hts (by rw [← HT.out, ← HS.out, e])
            have hne1 : (t.toList == s.toList) = false := by simpa using hts2
            have hne2 : (t.toList != s.toList) = true := by simp [bne, hne1]
            clear hts hts2
            go_wp2
            go_ret2
            exact ⟨HBEL.out.trans (HB7.out.mono HBEL.out.size), .inl ⟨HNO.out, rfl⟩⟩
      · have hk1 : ¬ (0 : Int) < (k : Int) := by omega
        clear hgo
        go_wp2_with fail
        refine (rd_done b r wr HRD.out).mono ?_
        rintro e w6 ⟨rfl, rfl⟩
        cases hd : r.done with
        | false =>
          have HNO := Lib.hid (show postDec l = none by rw [HDEC.out, hd]; simp)
          clear hd
          go_wp2
          go_ret2
          exact ⟨HBEL.out, .inl ⟨HNO.out, rfl⟩⟩
        | true =>
          have HDN := Lib.hid hd
          clear hd
          go_wp2_with fail
          refine (encode_any A pn cap (ps.map (·.1)) wr HP.out HFEW.out).mono ?_
          rintro e w7 ⟨rfl, hb7⟩
          have HB7 := Lib.hid hb7
          obtain ⟨t, ht⟩ : ∃ t, ba (postEnc (ps.map (·.1))) = t := ⟨_, rfl⟩
          rw [ht]
          have HT := Lib.hid ht
          clear hb7 ht
          by_cases hts : t = s
          · subst hts
            have HYES := Lib.hid (show postDec l = some (ps.map (·.1)) by rw [HDEC.out, if_pos ⟨HDN.out, ba_inj.1 (HT.out.trans HS.out.symm)⟩])
            go_wp2
            go_ret2
            exact ⟨HBEL.out.trans (HB7.out.mono HBEL.out.size), .inr ⟨_, ps, HYES.out, by rw [HPN.out]; rfl, HOWN.out.below HB7.out⟩⟩
          · have HNO := Lib.hid (show postDec l = none by rw [HDEC.out, if_neg]; rintro ⟨_, e⟩; exact hts (by rw [← HT.out, ← HS.out, e]))
            have hts2 : ¬ t.toList = s.toList := by rw [← HT.out, ← HS.out, ba_toList, ba_toList]; intro e; exact hts (by rw [← HT.out, ← HS.out, e])
            have hne1 : (t.toList == s.toList) = false := by simpa using hts2
            have hne2 : (t.toList != s.toList) = true := by simp [bne, hne1]
            clear hts hts2
            go_wp2
            go_ret2
            exact ⟨HBEL.out.trans (HB7.out.mono HBEL.out.size), .inl ⟨HNO.out, rfl⟩⟩
end Go.Proofs.YtfinpehbpcckaaaGreatDoor
end
