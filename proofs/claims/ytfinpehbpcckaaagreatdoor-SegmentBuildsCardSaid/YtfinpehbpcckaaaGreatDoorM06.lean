/- Layer 2: the contracts of the reference's reader. Layer 2: the reference's reader of lists of integers. Layer 33: the contract of the reference's Decode. -/
import Derived.Test.YtfinpehbpcckaaaGreatDoorM05
import Derived.Test.YtfinpehbpcckaaaGreatDoorM03
import Derived.Test.YtfinpehbpcckaaaGreatDoorM04
section
namespace Go.Proofs.YtfinpehbpcckaaaGreatDoor
open Go.RowKit
set_option linter.unusedVariables false

/-- The reader at block b is in state r. -/
def RRdIn (w : World) (b : Nat) (r : Rd) : Prop := w.heap[b]? = some (.cells #[.string (ba r.s), .bool r.bad] 131 (0, 0)) ∧ r.s.length ≤ maxLen
theorem RRdIn.lt {w : World} {b : Nat} {r : Rd} (h : RRdIn w b r) : b < w.heap.size := heap_lt h.1
theorem RRdIn.c0 {w : World} {b : Nat} {r : Rd} (h : RRdIn w b r) : w.cell? ⟨b, 0, none⟩ = some (.string (ba r.s)) := by simp [World.cell?, h.1]
theorem RRdIn.c1 {w : World} {b : Nat} {r : Rd} (h : RRdIn w b r) : w.cell? ⟨b, 1, none⟩ = some (.bool r.bad) := by simp [World.cell?, h.1]
theorem RRdIn.fr {w : World} {b : Nat} {r : Rd} (h : RRdIn w b r) (j : Nat) : w.frozen? ⟨b, j, none⟩ = false := by simp [World.frozen?, h.1]
theorem RRdIn.block {w w' : World} {b : Nat} {r : Rd} (h : RRdIn w b r) (e : w'.heap[b]? = w.heap[b]?) : RRdIn w' b r := ⟨e.trans h.1, h.2⟩
theorem RRdIn.set0 {w : World} {b : Nat} {r : Rd} (h : RRdIn w b r) {l : List UInt8} (hl : l.length ≤ r.s.length) : RRdIn (w.setCell ⟨b, 0, none⟩ (.string (ba l))) b ⟨l, r.bad⟩ :=
  ⟨heap_setCell_same w b 0 _ 131 _ h.1, Nat.le_trans hl h.2⟩

def RFailPost (w : World) (b : Nat) (e : Ending) (w' : World) : Prop := e = .returned (.tuple #[]) ∧ RRdIn w' b Rd.fails ∧ Off (· = b) w w'
theorem rrd_fail (b : Nat) (r : Rd) (w : World) (h : RRdIn w b r) : Calls Tryz.prog 103 #[.pointer (some ⟨b, 0, none⟩)] w (RFailPost w b) := by
  have H := Lib.hid h
  have c0 := h.c0
  have c1 := h.c1
  have f0 := h.fr 0
  have f1 := h.fr 1
  clear h
  go_enter Tryz.func103, Tryz.ntmps103
  go_wp2
  go_end0
  refine ⟨rfl, ⟨?_, by simp [Rd.fails]⟩, ((Off.refl (· = b) w).setCell (p := ⟨b, 0, none⟩) (.inl rfl) _).setCell (p := ⟨b, 1, none⟩) (.inl rfl) _⟩
  exact heap_setCell_same _ b 1 _ 131 _ (heap_setCell_same w b 0 _ 131 _ H.out.1)

theorem rrd_left (b : Nat) (r : Rd) (w : World) (h : RRdIn w b r) : Calls Tryz.prog 63 #[.pointer (some ⟨b, 0, none⟩)] w fun e w' => e = .returned (.int .i64 (r.s.length : Nat)) ∧ w = w' := by
  have c0 := h.c0
  have HS := Lib.hid (ba_size r.s)
  generalize ba r.s = s at c0 HS
  clear h
  go_enter Tryz.func63, Tryz.ntmps63
  go_wp2
  go_ret
  exact ⟨congrArg (fun n : Nat => Ending.returned (.int .i64 (n : Int))) HS.out, rfl⟩

theorem rrd_done (b : Nat) (r : Rd) (w : World) (h : RRdIn w b r) : Calls Tryz.prog 65 #[.pointer (some ⟨b, 0, none⟩)] w fun e w' => e = .returned (.bool r.done) ∧ w = w' := by
  obtain ⟨l, bad⟩ := r
  have c0 := h.c0
  have c1 := h.c1
  have HS := Lib.hid (ba_size l)
  dsimp only at c0 c1
  generalize ba l = s at c0 HS
  clear h
  cases bad with
  | true =>
    go_enter Tryz.func65, Tryz.ntmps65
    go_wp2
    go_ret
    exact ⟨rfl, rfl⟩
  | false =>
    by_cases h0 : s.size = 0
    · have hd : ((s.size : Int) == 0) = true := by simpa using h0
      have H0 := Lib.hid h0
      clear h0
      go_enter Tryz.func65, Tryz.ntmps65
      go_wp2
      go_ret
      have : l = [] := List.eq_nil_of_length_eq_zero (HS.out.symm.trans H0.out)
      exact ⟨by rw [this]; rfl, rfl⟩
    · have hd : ((s.size : Int) == 0) = false := by simpa using h0
      have H0 := Lib.hid h0
      clear h0
      go_enter Tryz.func65, Tryz.ntmps65
      go_wp2
      go_ret
      refine ⟨?_, rfl⟩
      cases l with
      | nil => exact absurd HS.out H0.out
      | cons a t => rfl

def ROpenPost (w : World) (l : List UInt8) (e : Ending) (w' : World) : Prop := ∃ b, w.heap.size ≤ b ∧ e = .returned (.pointer (some ⟨b, 0, none⟩)) ∧ RRdIn w' b ⟨l, false⟩ ∧ Below w.heap.size w w'
theorem rrd_open (l : List UInt8) (w : World) (h : l.length ≤ maxLen) : Calls Tryz.prog 60 #[.string (ba l)] w (ROpenPost w l) := by
  generalize hs : ba l = s
  have HS := Lib.hid hs
  have HL := Lib.hid h
  clear hs h
  go_enter Tryz.func60, Tryz.ntmps60
  go_wp2
  go_ret
  refine ⟨w.heap.size, Nat.le_refl _, rfl, ⟨?_, HL.out⟩, (Below.refl _ _).alloc (Nat.le_refl _) _⟩
  rw [(MapKept.heap_alloc w _).1, HS.out]

def RNumPost (w : World) (b : Nat) (r : Rd) (e : Ending) (w' : World) : Prop := e = .returned (.int .i64 (r.num.1 : Nat)) ∧ RRdIn w' b r.num.2 ∧ Off (· = b) w w'
theorem and127 (c : UInt8) : bits BinOp.and IntKind.u8 (c.toNat : Int) 127 = ((c.toNat % 128 : Nat) : Int) := by
  have h : ∀ x : Fin 256, bits BinOp.and IntKind.u8 (x.val : Int) 127 = ((x.val % 128 : Nat) : Int) := by decide +kernel
  exact h ⟨c.toNat, c.toNat_lt⟩
theorem val_drop {l : List UInt8} {m k : Nat} (hm : m ≤ l.length) (hk : k < m) : val ((l.take m).drop k) = val ((l.take m).drop (k + 1)) * 128 + (l[k]'(by omega)).toNat % 128 := by
  have h1 : k < (l.take m).length := by rw [List.length_take]; omega
  rw [drop_cons' h1]
  simp only [val, List.getElem_take]
  omega
theorem val_drop_lt {l : List UInt8} {m k : Nat} (h9 : m ≤ 9) : val ((l.take m).drop k) < 9223372036854775808 := by
  have h1 := val_lt ((l.take m).drop k)
  have h2 : ((l.take m).drop k).length ≤ 9 := by rw [List.length_drop, List.length_take]; omega
  have h3 : (128 : Nat) ^ ((l.take m).drop k).length ≤ 128 ^ 9 := Nat.pow_le_pow_right (by omega) h2
  have e : (128 : Nat) ^ 9 = 9223372036854775808 := rfl
  omega
theorem num_back {l : List UInt8} {k u : Nat} (hk : k + 1 ≤ l.length) (h9 : k + 1 ≤ 9) (hu : u < k + 1) : wrap64 (wrap64 (((val ((l.take (k + 1)).drop (u + 1)) : Nat) : Int) * 128) + wrap64 ((((l[u]'(by omega)).toNat % 128 : Nat)) : Int)) = ((val ((l.take (k + 1)).drop u) : Nat) : Int) := by
  have hv := val_drop hk hu
  have hlt := val_drop_lt (l := l) (k := u) h9
  have e1 : wrap64 (((val ((l.take (k + 1)).drop (u + 1)) : Nat) : Int) * 128) = ((val ((l.take (k + 1)).drop (u + 1)) : Nat) : Int) * 128 := IntWalk.wrap64_in _ (by omega)
  have e2 : wrap64 ((((l[u]'(by omega)).toNat % 128 : Nat)) : Int) = ((((l[u]'(by omega)).toNat % 128 : Nat)) : Int) := IntWalk.wrap64_in _ (by omega)
  rw [e1, e2, IntWalk.wrap64_in _ (by omega)]
  omega
set_option maxRecDepth 100000 in
set_option maxHeartbeats 1000000 in
theorem rrd_num (b : Nat) (r : Rd) (w : World) (h : RRdIn w b r) : Calls Tryz.prog 62 #[.pointer (some ⟨b, 0, none⟩)] w (RNumPost w b r) := by
  obtain ⟨l, bad⟩ := r
  have H := Lib.hid h
  have c0 := h.c0
  have f0 := h.fr 0
  have hm := h.2
  dsimp only at c0 hm
  obtain ⟨s, hs⟩ : ∃ s, ba l = s := ⟨_, rfl⟩
  have hsz : s.size = l.length := by rw [← hs, ba_size]
  rw [hs] at c0
  rw [← hsz] at hm
  have HS := Lib.hid hs
  have HSZ := Lib.hid hsz
  have HG := Lib.hid (show ∀ k (h1 : k < s.size) (h2 : k < l.length), s[k] = l[k] by subst hs; intro k h1 h2; rfl)
  unfold maxLen at hm
  clear h hs hsz
  go_enter Tryz.func62, Tryz.ntmps62
  go_wp2
  go_loop [3] (fun i => ∃ k : Nat, k ≤ hi l ∧ k ≤ s.size ∧ i = .int .i64 (k : Int)) (fun i => s.size - (intOf i).toNat)
  case atStart => exact ⟨0, Nat.zero_le _, Nat.zero_le _, rfl⟩
  case round =>
    obtain ⟨k, hk, hks, rfl⟩ := hrel
    by_cases hlt : k < s.size
    · have hkl : k < l.length := by rw [← HSZ.out]; exact hlt
      have hk1 : (k : Int) < s.size := by omega
      have hc := hi_step hkl hk
      have hg := HG.out k hlt hkl
      have HC := Lib.hid hc
      have HGK := Lib.hid hg
      have hu0 : (0 : Int) ≤ (s[k].toNat : Int) := by omega
      have hu1 : (s[k].toNat : Int) ≤ 255 := by have := s[k].toNat_lt; omega
      clear hc hg
      by_cases hb : 128 ≤ (s[k].toNat : Int)
      · have hb2 : 128 ≤ l[k].toNat := by rw [← HGK.out]; omega
        go_wp2_with fail
        go_round
        case rel => exact ⟨k + 1, HC.out.1 hb2, by omega, by go_num⟩
        case measure => simp [intOf] <;> omega
      · have hhi : k = hi l := HC.out.2 (by rw [← HGK.out]; omega)
        have HHI := Lib.hid hhi
        clear hhi
        by_cases h8 : 8 < k
        · have hd8 : decide (8 < k) = true := by simpa using h8
          have hd8' : (8 : Int) < (k : Int) := by omega
          have e : Rd.num ⟨l, bad⟩ = (0, Rd.fails) := by
            unfold Rd.num
            rw [rnum_long (l := l) (by rw [← HHI.out]; exact h8)]
          have HE := Lib.hid e
          clear e
          go_wp2_with fail
          refine (rrd_fail b _ w H.out).mono ?_
          rintro e w1 ⟨rfl, hr, hO⟩
          have HF := Lib.hid (And.intro hr hO)
          clear hr hO
          go_wp2
          go_ret
          exact ⟨by rw [HE.out]; rfl, by rw [HE.out]; exact HF.out.1, HF.out.2⟩
        · have h8' : (k : Int) ≤ 8 := by omega
          by_cases hz : 0 < k ∧ (s[k].toNat : Int) = 0
          · have hk0 : 0 < k := hz.1
            have hz1 : ((s[k].toNat : Int) == 0) = true := by simpa using hz.2
            have HZ := Lib.hid hz
            clear hz
            have e : Rd.num ⟨l, bad⟩ = (0, Rd.fails) := by
              unfold Rd.num
              rw [rnum_zero (l := l) (by rw [← HHI.out]; exact hkl) (by have := HZ.out.1; have := HHI.out; omega) (by
                have h1 := HZ.out.2; rw [HGK.out] at h1
                have h2 := HHI.out
                subst h2; omega)]
            have HE := Lib.hid e
            clear e
            go_wp2_with fail
            refine (rrd_fail b _ w H.out).mono ?_
            rintro e w1 ⟨rfl, hr, hO⟩
            have HF := Lib.hid (And.intro hr hO)
            clear hr hO
            go_wp2
            go_ret
            exact ⟨by rw [HE.out]; rfl, by rw [HE.out]; exact HF.out.1, HF.out.2⟩
          · have hok : rnum l = some (val (l.take (k + 1)), l.drop (k + 1)) := by
              have h2 := HHI.out
              have hc1 : k = 0 ∨ l[k].toNat ≠ 0 := by
                rw [HGK.out] at hz
                omega
              clear hz hu0 hu1 hb HGK HC
              subst h2
              exact rnum_some hkl (by omega) hc1
            have e : Rd.num ⟨l, bad⟩ = (val (l.take (k + 1)), ⟨l.drop (k + 1), bad⟩) := by
              unfold Rd.num
              rw [hok]
            have hcut : s.extract (k + 1) s.size = ba (l.drop (k + 1)) := by rw [← HS.out]; exact ba_drop _ _
            have fin : RNumPost w b ⟨l, bad⟩ (.returned (.int .i64 ((val (l.take (k + 1)) : Nat) : Int))) (w.setCell ⟨b, 0, none⟩ (.string (s.extract (k + 1) s.size))) := by
              unfold RNumPost
              rw [e, hcut]
              exact ⟨rfl, H.out.set0 (by simp), (Off.refl (· = b) w).setCell (p := ⟨b, 0, none⟩) (.inl rfl) _⟩
            have FIN := Lib.hid fin
            have hk4 : (k : Int) + 1 ≤ s.size := by omega
            clear hok e hcut fin
            have hcase : (decide (0 < k) = false) ∨ (decide (0 < k) = true ∧ ((s[k].toNat : Int) == 0) = false) := by
              by_cases h0 : 0 < k
              · refine .inr ⟨by simpa using h0, ?_⟩
                have : ¬ (s[k].toNat : Int) = 0 := fun h => hz ⟨h0, h⟩
                simpa using this
              · exact .inl (by simpa using h0)
            clear hz
            rcases hcase with hd | ⟨hd, hz1⟩
            all_goals
              go_wp2_with fail
              go_loop [4, 5] (fun n i => ∃ t : Nat, t ≤ k + 1 ∧ i = .int .i64 ((t : Int) - 1) ∧ n = .int .i64 ((val ((l.take (k + 1)).drop t) : Nat) : Int)) (fun _ i => (intOf i + 1).toNat)
              case atStart =>
                refine ⟨k + 1, Nat.le_refl _, by go_num, ?_⟩
                rw [List.drop_of_length_le (by rw [List.length_take]; omega)]
                rfl
              case round =>
                obtain ⟨t, ht, rfl, rfl⟩ := hrel
                cases t with
                | zero =>
                  rw [List.drop_zero, show ((0 : Nat) : Int) - 1 = -1 from rfl]
                  go_wp2_with fail
                  go_ret
                  exact FIN.out
                | succ u =>
                  rw [show ((u + 1 : Nat) : Int) - 1 = (u : Int) by omega]
                  have hu : u < s.size := by omega
                  have hul : u < l.length := by omega
                  have hu2 : (u : Int) < s.size := by omega
                  go_wp2_with fail
                  go_round
                  case rel =>
                    refine ⟨u, by omega, by go_num, ?_⟩
                    rw [and127, HG.out u hu hul, num_back (by omega) (by omega) (by omega)]
                  case measure => simp [intOf] <;> omega
    · have hge : k = s.size := by omega
      have hd1 : decide (k < s.size) = false := by simp; omega
      have hd2 : decide (s.size ≤ k) = true := by simp; omega
      have e : Rd.num ⟨l, bad⟩ = (0, Rd.fails) := by
        unfold Rd.num
        rw [rnum_short (l := l) (by have := HSZ.out; show l.length ≤ hi l; omega)]
      have HE := Lib.hid e
      clear e
      go_wp2_with fail
      refine (rrd_fail b _ w H.out).mono ?_
      rintro e w1 ⟨rfl, hr, hO⟩
      have HF := Lib.hid (And.intro hr hO)
      clear hr hO
      go_wp2
      go_ret
      exact ⟨by rw [HE.out]; rfl, by rw [HE.out]; exact HF.out.1, HF.out.2⟩

def RTakePost (w : World) (b : Nat) (r : Rd) (n : Int) (e : Ending) (w' : World) : Prop := e = .returned (.string (ba (r.take n).1)) ∧ RRdIn w' b (r.take n).2 ∧ Off (· = b) w w'
set_option maxRecDepth 100000 in
theorem rrd_take (b : Nat) (r : Rd) (n : Int) (w : World) (h : RRdIn w b r) : Calls Tryz.prog 104 #[.pointer (some ⟨b, 0, none⟩), .int .i64 n] w (RTakePost w b r n) := by
  obtain ⟨l, bad⟩ := r
  have H := Lib.hid h
  have c0 := h.c0
  have c1 := h.c1
  have f0 := h.fr 0
  have hm := h.2
  dsimp only at c0 c1 hm
  obtain ⟨s, hs⟩ : ∃ s, ba l = s := ⟨_, rfl⟩
  have hsz : s.size = l.length := by rw [← hs, ba_size]
  rw [hs] at c0
  rw [← hsz] at hm
  have HS := Lib.hid hs
  have HSZ := Lib.hid hsz
  unfold maxLen at hm
  clear h hs hsz
  by_cases hf : n < 0 ∨ (s.size : Int) < n ∨ bad = true
  · have e : Rd.take ⟨l, bad⟩ n = ([], Rd.fails) := by
      unfold Rd.take
      rw [if_pos]
      show n < 0 ∨ (l.length : Int) < n ∨ bad = true
      rw [← HSZ.out]; exact hf
    have HE := Lib.hid e
    clear e
    have fin : ∀ w', RRdIn w' b Rd.fails → Off (· = b) w w' → RTakePost w b ⟨l, bad⟩ n (.returned (.string ⟨#[]⟩)) w' := fun w' h1 h2 => by
      unfold RTakePost
      rw [HE.out]
      exact ⟨rfl, h1, h2⟩
    have FIN := Lib.hid fin
    clear fin
    have hcase : bad = true ∨ (bad = false ∧ n < 0) ∨ (bad = false ∧ ¬ n < 0 ∧ (s.size : Int) < n) := by
      cases bad with
      | true => exact .inl rfl
      | false =>
        by_cases h1 : n < 0
        · exact .inr (.inl ⟨rfl, h1⟩)
        · exact .inr (.inr ⟨rfl, h1, by rcases hf with h | h | h; exact absurd h h1; exact h; cases h⟩)
    clear hf
    rcases hcase with rfl | ⟨rfl, h1⟩ | ⟨rfl, h1, h2⟩
    all_goals
      go_enter Tryz.func104, Tryz.ntmps104
      go_wp2_with fail
      refine (rrd_fail b _ w H.out).mono ?_
      rintro e w1 ⟨rfl, hr, hO⟩
      have HF := Lib.hid (FIN.out w1 hr hO)
      clear hr hO
      go_wp2
      go_ret
      exact HF.out
  · obtain rfl : bad = false := by cases bad with | false => rfl | true => exact absurd (.inr (.inr rfl)) hf
    have h1 : ¬ n < 0 := fun h => hf (.inl h)
    have h2 : ¬ (s.size : Int) < n := fun h => hf (.inr (.inl h))
    clear hf
    obtain ⟨k, rfl⟩ : ∃ k : Nat, n = (k : Int) := ⟨n.toNat, by omega⟩
    have hk : (k : Int) ≤ s.size := by omega
    have e : Rd.take ⟨l, false⟩ (k : Int) = (l.take k, ⟨l.drop k, false⟩) := by
      unfold Rd.take
      rw [if_neg]
      · simp
      · show ¬ ((k : Int) < 0 ∨ (l.length : Int) < (k : Int) ∨ false = true)
        have := HSZ.out
        simp
        omega
    have hcut : s.extract k s.size = ba (l.drop k) := by rw [← HS.out]; exact ba_drop _ _
    have hhead : s.extract 0 k = ba (l.take k) := by rw [← HS.out, ba_cut]; rfl
    have fin : RTakePost w b ⟨l, false⟩ (k : Int) (.returned (.string (s.extract 0 k))) (w.setCell ⟨b, 0, none⟩ (.string (s.extract k s.size))) := by
      unfold RTakePost
      rw [e, hcut, hhead]
      exact ⟨rfl, H.out.set0 (by simp), (Off.refl (· = b) w).setCell (p := ⟨b, 0, none⟩) (.inl rfl) _⟩
    have FIN := Lib.hid fin
    clear e hcut hhead fin
    go_enter Tryz.func104, Tryz.ntmps104
    go_wp2
    go_ret
    exact FIN.out

def RTextPost (w : World) (b : Nat) (r : Rd) (e : Ending) (w' : World) : Prop := e = .returned (.string (ba r.text.1)) ∧ RRdIn w' b r.text.2 ∧ Off (· = b) w w'
theorem rrd_text (b : Nat) (r : Rd) (w : World) (h : RRdIn w b r) : Calls Tryz.prog 64 #[.pointer (some ⟨b, 0, none⟩)] w (RTextPost w b r) := by
  have H := Lib.hid h
  clear h
  go_enter Tryz.func64, Tryz.ntmps64
  go_wp2_with fail
  refine (rrd_num b r w H.out).mono ?_
  rintro e w1 ⟨rfl, hr, hO⟩
  obtain ⟨k, hk⟩ : ∃ k, r.num.1 = k := ⟨_, rfl⟩
  rw [hk]
  have HK := Lib.hid hk
  have HR := Lib.hid (And.intro hr hO)
  clear hk hr hO
  go_wp2_with fail
  refine (rrd_take b _ (k : Int) w1 HR.out.1).mono ?_
  rintro e w2 ⟨rfl, hr, hO⟩
  have HR2 := Lib.hid (And.intro hr hO)
  clear hr hO
  go_wp2
  go_ret
  unfold RTextPost Rd.text
  rw [HK.out]
  exact ⟨rfl, HR2.out.1, HR.out.2.trans HR2.out.2⟩
end Go.Proofs.YtfinpehbpcckaaaGreatDoor
end
section
namespace Go.Proofs.YtfinpehbpcckaaaGreatDoor
open Go.RowKit
set_option linter.unusedVariables false

def RDecRel (w : World) (b : Nat) (r1 : Rd) (N k : Nat) (v : Value) (wr : World) : Prop :=
  ∃ acc r, OwnInts wr w.heap.size v acc ∧ acc.length ≤ k ∧ RRdIn wr b r ∧ Off (· = b) w wr ∧ Rd.loop (N - k) r acc = Rd.loop N r1 []
def RNumsPost (w : World) (b : Nat) (r : Rd) (e : Ending) (w' : World) : Prop := ∃ v, e = .returned v ∧ OwnInts w' w.heap.size v r.nums.1 ∧ RRdIn w' b r.nums.2 ∧ Off (· = b) w w'
set_option maxRecDepth 100000 in
set_option maxHeartbeats 2000000 in
theorem rrd_nums (b : Nat) (r : Rd) (w : World) (h : RRdIn w b r) (hok : r.ok) (hlen : r.s.length ≤ 1000000000) :
    Calls Tryz.prog 61 #[.pointer (some ⟨b, 0, none⟩)] w (RNumsPost w b r) := by
  have hbw := h.lt
  have H := Lib.hid h
  have hnb := r.num_bound
  have hz := Rd.num_bad0 hok
  clear h
  go_enter Tryz.func61, Tryz.ntmps61
  go_wp2_with fail
  refine (rrd_num b r w H.out).mono ?_
  rintro e w1 ⟨rfl, hr, hO⟩
  obtain ⟨N, hN⟩ : ∃ k, r.num.1 = k := ⟨_, rfl⟩
  obtain ⟨r1, hr1⟩ : ∃ k, r.num.2 = k := ⟨_, rfl⟩
  rw [hN] at hnb hz ⊢
  rw [hr1] at hr hnb hz
  have HN := Lib.hid hN
  have HR1 := Lib.hid hr1
  have HR := Lib.hid hr
  have HO := Lib.hid hO
  have HZ := Lib.hid hz
  have c0 := hr.c0
  have hsz := ba_size r1.s
  obtain ⟨s, hs⟩ : ∃ s, ba r1.s = s := ⟨_, rfl⟩
  rw [hs] at c0 hsz
  have HS := Lib.hid hsz
  have hnl := hnb.2
  rw [← hsz] at hnl
  clear hN hr1 hr hO hsz hs hnb hz hok
  by_cases hgt : (s.size : Int) < (N : Int)
  · have e : r.nums = ([], Rd.fails) := by
      unfold Rd.nums
      rw [HR1.out, HN.out, if_pos (by rw [← HS.out]; omega)]
    have HE := Lib.hid e
    clear e
    go_wp2_with fail
    refine (rrd_fail b _ w1 HR.out).mono ?_
    rintro e w2 ⟨rfl, hr, hO⟩
    have HF := Lib.hid (And.intro hr (HO.out.trans hO))
    clear hr hO c0
    go_wp2
    go_ret
    refine ⟨_, rfl, ?_, ?_, HF.out.2⟩
    · rw [HE.out]; exact OwnInts.nil_ _ _
    · rw [HE.out]; exact HF.out.1
  · have hle : N ≤ s.size := by omega
    have hN9 : N ≤ 1000000000 := by omega
    have e : r.nums = Rd.loop N r1 [] := by
      unfold Rd.nums
      rw [HR1.out, HN.out, if_neg (by rw [← HS.out]; omega)]
      split
      · rename_i hb
        rw [HZ.out hb]; rfl
      · rfl
    have HE := Lib.hid e
    have hd : decide (s.size < N) = false := by simp; omega
    clear e hgt
    go_wp2
    go_loopw [4, 5] (fun v i wr => ∃ k : Nat, k ≤ N ∧ i = .int .i64 (k : Int) ∧ Hid (RDecRel w b r1 N k v wr)) (fun _ i _ => N - (intOf i).toNat)
    case atStart => exact ⟨0, Nat.zero_le _, rfl, [], r1, OwnInts.nil_ _ _, Nat.le_refl _, HR.out, HO.out, rfl⟩
    case round =>
      obtain ⟨k, hk, rfl, HD⟩ := hrel
      obtain ⟨acc, rc, hown, hacc, hrc, hoff, hor⟩ := HD.out
      have HOWN := Lib.hid hown
      have HACC := Lib.hid hacc
      have HRC := Lib.hid hrc
      have HOFF := Lib.hid hoff
      have HL := Lib.hid hor
      clear HD hown hacc hrc hoff hor
      by_cases hlt : k < N
      · have hlt2 : (k : Int) < (N : Int) := by omega
        go_wp2_with fail
        refine (rrd_num b rc wr HRC.out).mono ?_
        rintro e w3 ⟨rfl, hr, hO⟩
        have hnb := rc.num_bound
        obtain ⟨y, hy⟩ : ∃ k, rc.num.1 = k := ⟨_, rfl⟩
        obtain ⟨r2, hr2⟩ : ∃ k, rc.num.2 = k := ⟨_, rfl⟩
        rw [hy] at hnb ⊢
        rw [hr2] at hr
        have hown3 := HOWN.out.block (w' := w3) fun g hg => hO.block g (HOWN.out.1.lt g hg).2 fun e => by have h1 := (HOWN.out.1.lt g hg).1; have e' : g = b := e; omega
        have hs3 := Nat.le_trans HOFF.out.size hO.size
        have HOWN3 := Lib.hid hown3
        have HR3 := Lib.hid hr
        have HO3 := Lib.hid (HOFF.out.trans hO)
        have HY := Lib.hid hy
        have HR2 := Lib.hid hr2
        have hy2 := hnb.1
        have hal : acc.length < 1099511627776 := by have := HACC.out; omega
        have HAL := Lib.hid hal
        have hstep : Rd.loop (N - k) rc acc = if rc.num.2.bad = true then ([], rc.num.2) else Rd.loop (N - (k + 1)) rc.num.2 (acc ++ [(rc.num.1 : Int)]) := by
          rw [show N - k = (N - (k + 1)) + 1 by omega]; rfl
        rw [hr2, hy] at hstep
        have HST := Lib.hid hstep
        clear hown3 hr hO hy hr2 hnb hal hstep
        cases hb2 : r2.bad with
        | true =>
          have HB2 := Lib.hid hb2
          clear hb2
          go_wp2_with (at_builtin; go_must (refine wpList_push HOWN3.out hs3 (by omega) HAL.out rfl (.tmp 22) (.tmp 25) 26 1 rfl Tryz.underlying26 rfl rfl ?_); intro v' w4 hown1 hg1 hat1; have H1 := Lib.hid hown1; have H2 := Lib.hid hg1; have hb4 : w4.heap[b]? = w3.heap[b]? := hg1.block b HR3.out.lt (fun e => by have := (HOWN3.out.1.lt b e.symm).1; omega); have HR4 := Lib.hid (HR3.out.block hb4); have c1 := HR4.out.c1; rw [HB2.out] at c1; have HO4 := Lib.hid (HO3.out.grown hg1 fun g e => .inr (HOWN3.out.1.lt g e).1); clear hown1 hg1 hat1 hb4)
          go_ret
          have hfin := HL.out
          rw [HST.out, if_pos HB2.out] at hfin
          refine ⟨_, rfl, ?_, ?_, HO4.out⟩
          · rw [HE.out, ← hfin]; exact OwnInts.nil_ _ _
          · rw [HE.out, ← hfin]; exact HR4.out
        | false =>
          have HB2 := Lib.hid hb2
          clear hb2
          go_wp2_with (at_builtin; go_must (refine wpList_push HOWN3.out hs3 (by omega) HAL.out rfl (.tmp 22) (.tmp 25) 26 1 rfl Tryz.underlying26 rfl rfl ?_); intro v' w4 hown1 hg1 hat1; have H1 := Lib.hid hown1; have H2 := Lib.hid hg1; have hb4 : w4.heap[b]? = w3.heap[b]? := hg1.block b HR3.out.lt (fun e => by have := (HOWN3.out.1.lt b e.symm).1; omega); have HR4 := Lib.hid (HR3.out.block hb4); have c1 := HR4.out.c1; rw [HB2.out] at c1; have HO4 := Lib.hid (HO3.out.grown hg1 fun g e => .inr (HOWN3.out.1.lt g e).1); clear hown1 hg1 hat1 hb4)
          go_roundw
          case rel =>
            have hfin := HL.out
            rw [HST.out, if_neg (by rw [HB2.out]; decide)] at hfin
            exact ⟨k + 1, by omega, by go_num, acc ++ [(y : Int)], r2, H1.out, by rw [List.length_append]; simp; exact HACC.out, HR4.out, HO4.out, hfin⟩
          case measure => simp [intOf] <;> omega
      · obtain rfl : k = N := by omega
        go_wp2
        go_ret
        have hfin := HL.out
        rw [Nat.sub_self] at hfin
        refine ⟨_, rfl, ?_, ?_, HOFF.out⟩
        · rw [HE.out, ← hfin]; exact HOWN.out
        · rw [HE.out, ← hfin]; exact HRC.out
end Go.Proofs.YtfinpehbpcckaaaGreatDoor
end
section
namespace Go.Proofs.YtfinpehbpcckaaaGreatDoor
open Go.RowKit
set_option linter.unusedVariables false

theorem OwnPosts.notRRd {w : World} {B b : Nat} {v : Value} {ps : List (Post × Value)} {r : Rd} (h : OwnPosts w B v ps) (hr : RRdIn w b r) :
    (∀ g, v.ownBlock = some g → g ≠ b) ∧ ∀ p, p ∈ ps → p.1.places ≠ [] → ∀ ad n c, p.2 = .slice (some ad) n c → ad.block ≠ b := by
  refine h.notAt hr.1 (by decide) fun j i e => ?_
  match j, e with
  | 0, e => simp at e
  | 1, e => simp at e
  | j + 2, e => simp at e
section
variable {stp : Int → Nat → Option Int}
theorem gPlacesX_go {k : Nat} {r : Rd} {a x : Int} {acc : List Int} (hs : r.s ≠ []) (hx : stp a r.num.1 = some x) : gPlaces stp (k + 1) r a acc = gPlaces stp k r.num.2 x (acc ++ [x]) := by
  conv => lhs; unfold gPlaces
  rw [if_neg hs, hx]
theorem gPlacesX_no {k : Nat} {r : Rd} {a : Int} {acc : List Int} (hk : 0 < k) (hs : r.s ≠ []) (hx : stp a r.num.1 = none) : gPlaces stp k r a acc = none := by
  cases k with
  | zero => omega
  | succ k => unfold gPlaces; rw [if_neg hs, hx]
theorem gPlacesX_end {k : Nat} {r : Rd} {a : Int} {acc : List Int} (h : k = 0 ∨ r.s = []) : gPlaces stp k r a acc = some (acc, r) := by
  cases k with
  | zero => rfl
  | succ k =>
    unfold gPlaces
    rw [if_pos]
    rcases h with h | h
    · omega
    · exact h
theorem gPostsX_go {k : Nat} {r r3 : Rd} {d x : Int} {acc : List Post} {pl : List Int} (hs : r.s ≠ []) (hx : stp d r.num.1 = some x) (hp : gPlaces stp r.num.2.num.1 r.num.2.num.2 0 [] = some (pl, r3)) :
    gPosts stp (k + 1) r d acc = gPosts stp k r3 x (acc ++ [⟨x, pl⟩]) := by
  conv => lhs; unfold gPosts
  rw [if_neg hs, hx]
  show (match gPlaces stp r.num.2.num.1 r.num.2.num.2 0 [] with | none => none | some (pl, r3) => _) = _
  rw [hp]
theorem gPosts_no {k : Nat} {r : Rd} {d : Int} {acc : List Post} (hk : 0 < k) (hs : r.s ≠ []) (hx : stp d r.num.1 = none) : gPosts stp k r d acc = none := by
  cases k with
  | zero => omega
  | succ k => unfold gPosts; rw [if_neg hs, hx]
theorem gPosts_no2 {k : Nat} {r : Rd} {d : Int} {acc : List Post} (hk : 0 < k) (hs : r.s ≠ []) (hp : gPlaces stp r.num.2.num.1 r.num.2.num.2 0 [] = none) : gPosts stp k r d acc = none := by
  cases k with
  | zero => omega
  | succ k =>
    unfold gPosts
    rw [if_neg hs]
    cases stp d r.num.1 with
    | none => rfl
    | some x =>
      show (match gPlaces stp r.num.2.num.1 r.num.2.num.2 0 [] with | none => none | some (pl, r3) => _) = _
      rw [hp]
theorem gPostsX_end {k : Nat} {r : Rd} {d : Int} {acc : List Post} (h : k = 0 ∨ r.s = []) : gPosts stp k r d acc = some (acc, r) := by
  cases k with
  | zero => rfl
  | succ k =>
    unfold gPosts
    rw [if_pos]
    rcases h with h | h
    · omega
    · exact h
theorem gDec_none {s : List UInt8} (h : gPosts stp (Rd.num ⟨s, false⟩).1 (Rd.num ⟨s, false⟩).2 0 [] = none) : gDec stp s = none := by unfold gDec; rw [h]
end

/-- The state at the outer loop's head: k postings to go. -/
def RPDecRel (w : World) (b : Nat) (r1 : Rd) (N L k : Nat) (v : Value) (d : Int) (wr : World) : Prop :=
  ∃ r ps, RRdIn wr b r ∧ OwnPosts wr w.heap.size v ps ∧ Below w.heap.size w wr ∧ gPosts stepR k r d (ps.map (·.1)) = gPosts stepR N r1 0 [] ∧ ps.length + r.s.length ≤ L
/-- The state at the inner loop's head: t positions to go. -/
def RInRel (w3 : World) (b pb : Nat) (y : Int) (r3 : Rd) (N L t : Nat) (z : Int) (wr : World) : Prop :=
  ∃ r acc va, RRdIn wr b r ∧ wr.heap[pb]? = some (.cells #[.int .i64 y, va] 52 (0, 0)) ∧ OwnInts wr (pb + 1) va acc ∧ Off (fun k => k = b ∨ pb ≤ k) w3 wr ∧ gPlaces stepR t r z acc = gPlaces stepR N r3 0 [] ∧ acc.length + r.s.length ≤ L

set_option maxRecDepth 100000 in
set_option maxHeartbeats 4000000 in
theorem rdecode_any (l : List UInt8) (w : World) (hlen : l.length ≤ 1000000) : Calls Tryz.prog 70 #[.string (ba l)] w (DecPost w l) := by
  obtain ⟨s, hs⟩ : ∃ x, ba l = x := ⟨_, rfl⟩
  have HOP := Lib.hid (rrd_open l w (by unfold maxLen; omega))
  rw [hs] at HOP
  rw [hs]
  have HS := Lib.hid hs
  clear hs
  go_enter Tryz.func70, Tryz.ntmps70
  go_wp2_with fail
  refine HOP.out.mono ?_
  rintro e w1 ⟨b, hwb, rfl, hr, hb1⟩
  have HR0 := Lib.hid hr
  have HB1 := Lib.hid hb1
  clear hr hb1 HOP
  go_wp2_with fail
  refine (rrd_num b _ w1 HR0.out).mono ?_
  rintro e w2 ⟨rfl, hr, hO⟩
  have hnb := Rd.num_bound ⟨l, false⟩
  obtain ⟨N, hN⟩ : ∃ k, (Rd.num ⟨l, false⟩).1 = k := ⟨_, rfl⟩
  obtain ⟨r1, hr1⟩ : ∃ k, (Rd.num ⟨l, false⟩).2 = k := ⟨_, rfl⟩
  rw [hN] at hnb ⊢
  rw [hr1] at hr hnb
  have hN2 := hnb.1
  have HNB := Lib.hid (show r1.s.length ≤ 1000000 from Nat.le_trans hnb.2 hlen)
  have HN := Lib.hid hN
  have HR1 := Lib.hid hr1
  have HR := Lib.hid hr
  have HB2 := Lib.hid (HB1.out.trans (hO.below (B := w.heap.size) (by have := HB1.out.size; omega) fun k e => by subst e; exact hwb))
  have HST := Lib.hid (show RPDecRel w b r1 N 1000000 N (.slice none 0 0) 0 w2 from ⟨r1, [], HR.out, OwnPosts.nil_ _ _, HB2.out, rfl, by simpa using HNB.out⟩)
  clear hN hr1 hr hO hnb
  go_wp2
  go_loopw [6, 7, 8] (fun v0 d i wr => ∃ (j k : Nat) (x : Int) (v : Value), v = v0 ∧ j + k = N ∧ i = .int .i64 (j : Int) ∧ d = .int .i64 x ∧ 0 ≤ x ∧ x ≤ 1099511627776 ∧ Hid (RPDecRel w b r1 N 1000000 k v x wr)) (fun _ _ i _ => N - (intOf i).toNat)
  case atStart => exact ⟨0, N, 0, _, rfl, Nat.zero_add _, rfl, rfl, Int.le_refl _, by omega, HST.out⟩
  case round =>
    obtain ⟨j, k, x, v, rfl, hk, rfl, rfl, hx0, hx1, HD⟩ := hrel
    obtain ⟨r, ps, hrd, hown, hbel, heq, hll⟩ := HD.out
    obtain ⟨q, hq⟩ : ∃ q, r.s.length = q := ⟨_, rfl⟩
    have HRD := Lib.hid hrd
    have HOWN := Lib.hid hown
    have HBEL := Lib.hid hbel
    have HEQ := Lib.hid heq
    have hbw := hrd.lt
    rw [hq] at hll
    have HQ := Lib.hid hq
    clear HD hrd hown hbel heq hq
    by_cases hgo : 0 < k ∧ 0 < q
    · have hk0 : (j : Int) < (N : Int) := by omega
      have hq0 : (0 : Int) < (q : Int) := by omega
      have HNE := Lib.hid (show r.s ≠ [] by intro e; have := HQ.out; rw [e] at this; simp at this; omega)
      go_wp2_with fail
      refine (rrd_left b r wr HRD.out).mono ?_
      rintro e w3 ⟨rfl, rfl⟩
      rw [HQ.out]
      go_wp2_with fail
      refine (rrd_num b r wr HRD.out).mono ?_
      rintro e w3 ⟨rfl, hr3, hO3⟩
      have hnb := r.num_bound
      obtain ⟨n1, hn1⟩ : ∃ k, r.num.1 = k := ⟨_, rfl⟩
      obtain ⟨r2, hr2⟩ : ∃ k, r.num.2 = k := ⟨_, rfl⟩
      have hlt2 := r.num_less HNE.out
      rw [hn1] at hnb ⊢
      rw [hr2] at hr3 hnb hlt2
      rw [HQ.out] at hlt2
      have hn1b := hnb.1
      have HN1 := Lib.hid hn1
      have HR2 := Lib.hid hr2
      have HR3 := Lib.hid hr3
      have HO3 := Lib.hid hO3
      clear hn1 hr2 hr3 hO3 hnb
      by_cases hfar : (1099511627776 : Int) - x < (n1 : Int)
      · have HNO := Lib.hid (show postDec l = none by
          have hl63 : l.length < 9223372036854775808 := by omega
          rw [postDec, gDec_same stepP_ok stepR_ok hl63]
          refine gDec_none ?_
          rw [HN.out, HR1.out, ← HEQ.out]
          exact gPosts_no (by omega) HNE.out (by rw [HN1.out]; unfold stepR; rw [if_pos (by show (1099511627776 : Int) - x < n1; exact hfar)]))
        have HB3 := Lib.hid (HBEL.out.trans (HO3.out.below (B := w.heap.size) HBEL.out.size fun k e => by subst e; exact hwb))
        go_wp2
        go_ret2
        exact ⟨HB3.out, .inl ⟨HNO.out, rfl⟩⟩
      have hfar2 : ¬ (1099511627776 : Int) - x < (n1 : Int) := hfar
      have hyb0 : 0 ≤ x + (n1 : Int) := by omega
      have hyb1 : x + (n1 : Int) ≤ 1099511627776 := by omega
      obtain ⟨y, hy⟩ : ∃ y, x + (n1 : Int) = y := ⟨_, rfl⟩
      have hyb : 0 ≤ y ∧ y ≤ 1099511627776 := by omega
      have HYS := Lib.hid hy
      have HY := Lib.hid (show stepR x n1 = some y by unfold stepR; rw [if_neg (by show ¬ (1099511627776 : Int) - x < n1; exact hfar), hy])
      clear hfar hy
      have HOWN3 := Lib.hid (show OwnPosts w3 w.heap.size v ps from HOWN.out.off HO3.out (fun g e eb => (HOWN.out.notRRd HRD.out).1 g e eb) (fun p hm hne ad n c e eb => (HOWN.out.notRRd HRD.out).2 p hm hne ad n c e eb))
      have HB3 := Lib.hid (HBEL.out.trans (HO3.out.below (B := w.heap.size) HBEL.out.size fun k e => by subst e; exact hwb))
      obtain ⟨pb, hpb⟩ : ∃ q, w3.heap.size = q := ⟨_, rfl⟩
      have hbp : b < pb := by rw [← hpb]; exact HR3.out.lt
      have hwp : w.heap.size ≤ pb := by omega
      have HPB := Lib.hid hpb
      have HBOX := Lib.hid (show (w3.alloc (.cells #[.int .i64 y, .slice none 0 0] 52)).heap[pb]? = some (.cells #[.int .i64 y, .slice none 0 0] 52 (0, 0)) by rw [← hpb]; exact (MapKept.heap_alloc w3 _).1)
      have HRA := Lib.hid (show RRdIn (w3.alloc (.cells #[.int .i64 y, .slice none 0 0] 52)) b r2 from HR3.out.block (heap_alloc_old w3 _ HR3.out.lt))
      have HOA := Lib.hid (show Off (fun k => k = b ∨ pb ≤ k) w3 (w3.alloc (.cells #[.int .i64 y, .slice none 0 0] 52)) from (Off.refl _ _).alloc _)
      clear hpb
      go_wp2_with fail
      rw [HYS.out]
      refine (rrd_num b r2 _ HRA.out).mono ?_
      rintro e w5 ⟨rfl, hr5, hO5⟩
      have hnb := r2.num_bound
      obtain ⟨n2, hn2⟩ : ∃ k, r2.num.1 = k := ⟨_, rfl⟩
      obtain ⟨r3, hr3⟩ : ∃ k, r2.num.2 = k := ⟨_, rfl⟩
      rw [hn2] at hnb ⊢
      rw [hr3] at hr5 hnb
      have hn2b := hnb.1
      have hl3 := hnb.2
      obtain ⟨m3, hm3⟩ : ∃ m, r3.s.length = m := ⟨_, rfl⟩
      have hm3q : m3 < q := by omega
      have HN2 := Lib.hid hn2
      have HR3' := Lib.hid hr3
      rw [HPB.out]
      have HIN := Lib.hid (show RInRel w3 b pb y r3 n2 m3 n2 0 w5 from ⟨r3, [], _, hr5, (hO5.block pb (heap_lt HBOX.out) (by show ¬ pb = b; omega)).trans HBOX.out, OwnInts.nil_ _ _, HOA.out.trans (hO5.mono fun k _ e => .inl e), rfl, by simp; omega⟩)
      clear hn2 hr3 hr5 hO5 hnb hl3 hm3
      go_wp2
      go_loopw [12, 13] (fun a i wr' => ∃ (j2 t : Nat) (z : Int), j2 + t = n2 ∧ i = .int .i64 (j2 : Int) ∧ a = .int .i64 z ∧ 0 ≤ z ∧ z ≤ 1099511627776 ∧ Hid (RInRel w3 b pb y r3 n2 m3 t z wr')) (fun _ i _ => n2 - (intOf i).toNat)
      case atStart => exact ⟨0, n2, 0, Nat.zero_add _, rfl, rfl, Int.le_refl _, by omega, HIN.out⟩
      case round =>
        obtain ⟨j2, t, z, ht, rfl, rfl, hz0, hz1, HI⟩ := hrel
        obtain ⟨rr, acc, va, hrd, hbox, hva, hoff, heq, hli⟩ := HI.out
        obtain ⟨u, hu⟩ : ∃ u, rr.s.length = u := ⟨_, rfl⟩
        have HRI := Lib.hid hrd
        have HBX := Lib.hid hbox
        have HVA := Lib.hid hva
        have HOF := Lib.hid hoff
        have HEI := Lib.hid heq
        rw [hu] at hli
        have HU := Lib.hid hu
        have hwsz : pb < wr.heap.size := heap_lt hbox
        clear HI hrd hbox hva hoff heq hu
        by_cases hin : 0 < t ∧ 0 < u
        · have ht0 : (j2 : Int) < (n2 : Int) := by omega
          have hu0 : (0 : Int) < (u : Int) := by omega
          have HNI := Lib.hid (show rr.s ≠ [] by intro e; have := HU.out; rw [e] at this; simp at this; omega)
          go_wp2_with fail
          refine (rrd_left b rr wr HRI.out).mono ?_
          rintro e w6 ⟨rfl, rfl⟩
          rw [HU.out]
          go_wp2_with fail
          refine (rrd_num b rr wr HRI.out).mono ?_
          rintro e w6 ⟨rfl, hr6, hO6⟩
          have hnb := rr.num_bound
          obtain ⟨n4, hn4⟩ : ∃ k, rr.num.1 = k := ⟨_, rfl⟩
          obtain ⟨r4, hr4⟩ : ∃ k, rr.num.2 = k := ⟨_, rfl⟩
          have hlt4 := rr.num_less HNI.out
          rw [hn4] at hnb ⊢
          rw [hr4] at hr6 hlt4
          rw [HU.out] at hlt4
          have hn4b := hnb.1
          have HN4 := Lib.hid hn4
          have HR4 := Lib.hid hr4
          have HR6 := Lib.hid hr6
          have HO6 := Lib.hid hO6
          clear hn4 hr4 hr6 hO6 hnb
          by_cases hfz : (1099511627776 : Int) - z < (n4 : Int)
          · have HNO := Lib.hid (show postDec l = none by
              have hl63 : l.length < 9223372036854775808 := by omega
              rw [postDec, gDec_same stepP_ok stepR_ok hl63]
              refine gDec_none ?_
              rw [HN.out, HR1.out, ← HEQ.out]
              refine gPosts_no2 (by omega) HNE.out ?_
              rw [HR2.out, HN2.out, HR3'.out, ← HEI.out]
              exact gPlacesX_no (by omega) HNI.out (by rw [HN4.out]; unfold stepR; rw [if_pos (by show (1099511627776 : Int) - z < n4; exact hfz)]))
            have HBZ := Lib.hid (HB3.out.trans ((HOF.out.trans (HO6.out.mono (G := fun k => k = b ∨ pb ≤ k) fun k _ e => .inl e)).below (B := w.heap.size) HB3.out.size fun k e => by rcases e with e | e <;> omega))
            go_wp2
            go_ret2
            exact ⟨HBZ.out, .inl ⟨HNO.out, rfl⟩⟩
          have hfz2 : ¬ (1099511627776 : Int) - z < (n4 : Int) := hfz
          have hzb0 : 0 ≤ z + (n4 : Int) := by omega
          have hzb1 : z + (n4 : Int) ≤ 1099511627776 := by omega
          have HZ := Lib.hid (show stepR z n4 = some (z + (n4 : Int)) by unfold stepR; rw [if_neg (by show ¬ (1099511627776 : Int) - z < n4; exact hfz)])
          clear hfz
          have HVA6 := Lib.hid (HVA.out.block (w' := w6) fun g hg => HO6.out.block g (HVA.out.1.lt g hg).2 fun e => by have h1 := (HVA.out.1.lt g hg).1; have e' : g = b := e; omega)
          have HBX6 := Lib.hid ((HO6.out.block pb hwsz (by show ¬ pb = b; omega)).trans HBX.out)
          have HO6' := Lib.hid (show Off (fun k => k = b ∨ pb ≤ k) w3 w6 from HOF.out.trans (HO6.out.mono fun k _ e => .inl e))
          have hs6 : pb + 1 ≤ w6.heap.size := by have := HO6.out.size; omega
          have d1 : w6.cell? ⟨pb, 1, none⟩ = some va := by simp [World.cell?, HBX6.out]
          have hal : acc.length < 1099511627776 := by omega
          have HAL := Lib.hid hal
          clear hal
          go_wp2_with (at_builtin; go_must (refine wpList_push HVA6.out hs6 (by omega) HAL.out rfl (.tmp 63) (.tmp 65) 26 1 rfl Tryz.underlying26 rfl rfl ?_); intro v' w8 hown1 hg1 hat1; obtain ⟨ao, cap, rfl, -, -, -⟩ := hown1.ints; have H1 := Lib.hid hown1; have H2 := Lib.hid hg1; have HBX8 := Lib.hid ((hg1.block pb (by omega) fun e => by have := (HVA6.out.1.lt pb e.symm).1; omega).trans HBX6.out); have e1 : w8.cell? ⟨pb, 1, none⟩ = some va := (by simp [World.cell?, HBX8.out]); have ef : w8.frozen? ⟨pb, 1, none⟩ = false := (by simp [World.frozen?, HBX8.out]); clear hown1 hg1 hat1)
          go_roundw
          case rel =>
            have hb8 : w8.heap[b]? = w6.heap[b]? := H2.out.block b HR6.out.lt fun e => by have := (HVA6.out.1.lt b e.symm).1; omega
            refine ⟨j2 + 1, t - 1, z + (n4 : Int), by omega, by go_num, rfl, by omega, by omega, r4, acc ++ [(z + (n4 : Int))], .slice ao (acc.length + 1) cap, ?_, ?_, ?_, ?_, ?_, ?_⟩
            · exact (HR6.out.block hb8).block (heap_setCell_other w8 ⟨pb, 1, none⟩ b _ (by show ¬ b = pb; omega))
            · exact heap_setCell_same w8 pb 1 _ 52 _ HBX8.out
            · have h1' := H1.out
              rw [show (acc ++ [(z + (n4 : Int))]).length = acc.length + 1 by simp] at h1'
              exact h1'.block fun g hg => heap_setCell_other w8 ⟨pb, 1, none⟩ g _ (by have := (h1'.1.lt g hg).1; show ¬ g = pb; omega)
            · exact (HO6'.out.grown H2.out fun g e => .inl (.inr (by have := (HVA6.out.1.lt g e).1; omega))).setCell (p := ⟨pb, 1, none⟩) (.inl (.inr (Nat.le_refl _))) _
            · rw [← HEI.out]
              have := gPlacesX_go (k := t - 1) (a := z) (acc := acc) HNI.out (by rw [HN4.out]; exact HZ.out)
              rw [HR4.out, show t - 1 + 1 = t by omega] at this
              exact this.symm
            · rw [List.length_append]; simp; omega
          case measure => simp [intOf] <;> omega
        · have HE := Lib.hid (gPlacesX_end (stp := stepR) (a := z) (acc := acc) (show t = 0 ∨ rr.s = [] by
            by_cases h0 : t = 0
            · exact .inl h0
            · right; refine List.eq_nil_of_length_eq_zero ?_; rw [HU.out]; omega))
          have HGP := Lib.hid (show gPlaces stepR r.num.2.num.1 r.num.2.num.2 0 [] = some (acc, rr) by rw [HR2.out, HN2.out, HR3'.out, ← HEI.out, HE.out])
          obtain ⟨X, cx, rfl, hx1, hx2, hxi⟩ := HVA.out.ints
          obtain ⟨xn, hxn⟩ : ∃ x, acc.length = x := ⟨_, rfl⟩
          have HACC := Lib.hid hxn
          have d0 : wr.cell? ⟨pb, 0, none⟩ = some (.int .i64 y) := by simp [World.cell?, HBX.out]
          have d1 : wr.cell? ⟨pb, 1, none⟩ = some (.slice X acc.length cx) := by simp [World.cell?, HBX.out]
          have HOWNR := Lib.hid (show OwnPosts wr w.heap.size v ps from HOWN3.out.off HOF.out (fun g e eb => by
              rcases eb with eb | eb
              · exact (HOWN3.out.notRRd HR3.out).1 g e eb
              · have := (HOWN3.out.row.lt g e).2; have := HPB.out; omega) (fun p hm hne ad n c e eb => by
              rcases eb with eb | eb
              · exact (HOWN3.out.notRRd HR3.out).2 p hm hne ad n c e eb
              · have := HOWN3.out.placesLt p hm hne ad n c e; have := HPB.out; omega))
          have HPL := Lib.hid (show PlacesIn wr v.ownBlock (⟨y, acc⟩, .slice X acc.length cx) from ⟨X, acc.length, cx, rfl, hx1, hx2, ⟨by show -9223372036854775808 ≤ y; omega, by show y ≤ 9223372036854775807; omega⟩, hxi, fun hne ad e1 e2 => by
            have hpos : 0 < acc.length := List.length_pos_iff.2 hne
            obtain ⟨g, cap, e3, -, -⟩ := HVA.out.1.form hpos
            injection e3 with e3
            have h5 := (HVA.out.1.lt g (by rw [e3]; rfl)).1
            rw [e1] at e3
            injection e3 with e3
            subst e3
            have h6 := (HOWN3.out.row.lt _ e2).2
            have h7 : g < pb := by rw [← HPB.out]; exact h6
            omega⟩)
          have HBR := Lib.hid (HB3.out.trans (HOF.out.below (B := w.heap.size) HB3.out.size fun k e => by rcases e with e | e <;> omega))
          have hBs : w.heap.size ≤ wr.heap.size := by omega
          have HPLEN := Lib.hid (show ps.length ≤ 1000000000 by omega)
          rw [hxn] at d1 HPL hli
          clear hx1 hx2 hxi hxn
          by_cases ht0 : 0 < t
          · have ht1 : (j2 : Int) < (n2 : Int) := by omega
            have hu0 : ¬ (0 : Int) < (u : Int) := by omega
            clear hin
            go_wp2_with fail
            refine (rrd_left b rr wr HRI.out).mono ?_
            rintro e w6 ⟨rfl, rfl⟩
            rw [HU.out]
            go_wp2_with (at_builtin; go_must (refine wpList_pushPost HOWNR.out hBs HPL.out HPLEN.out rfl (.tmp 68) (.tmp 70) 1 rfl rfl rfl ?_); intro v' w8 hown1 hg1; have H1 := Lib.hid hown1; have H2 := Lib.hid hg1; clear hown1 hg1)
            go_roundw
            case rel =>
              refine ⟨j + 1, k - 1, y, _, rfl, by omega, by go_num, rfl, hyb.1, hyb.2, rr, ps ++ [(⟨y, acc⟩, .slice X xn cx)], ?_, H1.out, ?_, ?_, ?_⟩
              · exact HRI.out.block (H2.out.block b HRI.out.lt fun e => (HOWNR.out.notRRd HRI.out).1 b e.symm rfl)
              · exact HBR.out.grown H2.out hBs fun g e => (HOWNR.out.row.lt g e).1
              · rw [← HEQ.out]
                have := gPostsX_go (k := k - 1) (d := x) (acc := ps.map (·.1)) HNE.out (by rw [HN1.out]; exact HY.out) HGP.out
                rw [show k - 1 + 1 = k by omega] at this
                rw [this, List.map_append]; rfl
              · rw [List.length_append, HU.out]; simp; omega
            case measure => simp [intOf] <;> omega
          · have ht1 : ¬ (j2 : Int) < (n2 : Int) := by omega
            clear hin
            go_wp2_with (at_builtin; go_must (refine wpList_pushPost HOWNR.out hBs HPL.out HPLEN.out rfl (.tmp 68) (.tmp 70) 1 rfl rfl rfl ?_); intro v' w8 hown1 hg1; have H1 := Lib.hid hown1; have H2 := Lib.hid hg1; clear hown1 hg1)
            go_roundw
            case rel =>
              refine ⟨j + 1, k - 1, y, _, rfl, by omega, by go_num, rfl, hyb.1, hyb.2, rr, ps ++ [(⟨y, acc⟩, .slice X xn cx)], ?_, H1.out, ?_, ?_, ?_⟩
              · exact HRI.out.block (H2.out.block b HRI.out.lt fun e => (HOWNR.out.notRRd HRI.out).1 b e.symm rfl)
              · exact HBR.out.grown H2.out hBs fun g e => (HOWNR.out.row.lt g e).1
              · rw [← HEQ.out]
                have := gPostsX_go (k := k - 1) (d := x) (acc := ps.map (·.1)) HNE.out (by rw [HN1.out]; exact HY.out) HGP.out
                rw [show k - 1 + 1 = k by omega] at this
                rw [this, List.map_append]; rfl
              · rw [List.length_append, HU.out]; simp; omega
            case measure => simp [intOf] <;> omega
    · have HE := Lib.hid (gPostsX_end (stp := stepR) (d := x) (acc := ps.map (·.1)) (show k = 0 ∨ r.s = [] by
        by_cases h0 : k = 0
        · exact .inl h0
        · right; refine List.eq_nil_of_length_eq_zero ?_; rw [HQ.out]; omega))
      have hgp : gPosts stepR N r1 0 [] = some (ps.map (·.1), r) := by rw [← HEQ.out, HE.out]
      have HDEC := Lib.hid (show postDec l = if r.done = true ∧ postEnc (ps.map (·.1)) = l then some (ps.map (·.1)) else none by rw [postDec, gDec_same stepP_ok stepR_ok (by omega)]; unfold gDec; rw [HN.out, HR1.out, hgp])
      have hls := gPosts_len N r1 0 [] (ps.map (·.1)) r hgp
      have HFEW := Lib.hid (show FewPosts (ps.map (·.1)) from ⟨by have := HNB.out; have := hls.1; simp only [List.length_nil] at this; omega, fun p hp => by
        have := HNB.out
        rcases hls.2 p hp with h | h
        · cases h
        · omega⟩)
      obtain ⟨A, cap, rfl, hp1, hp2, hP⟩ := HOWN.out.posts
      obtain ⟨pn, hpn⟩ : ∃ x, ps.length = x := ⟨_, rfl⟩
      rw [hpn] at hP hp1 hll ⊢
      have HPN := Lib.hid hpn
      have HP := Lib.hid hP
      clear hgp hls hP hpn
      by_cases hk0 : 0 < k
      · have hk1 : (j : Int) < (N : Int) := by omega
        have hq0 : ¬ (0 : Int) < (q : Int) := by omega
        clear hgo
        go_wp2_with fail
        refine (rrd_left b r wr HRD.out).mono ?_
        rintro e w6 ⟨rfl, rfl⟩
        rw [HQ.out]
        go_wp2_with fail
        refine (rrd_done b r wr HRD.out).mono ?_
        rintro e w6 ⟨rfl, rfl⟩
        cases hd : r.done with
        | false =>
          have HNO := Lib.hid (show postDec l = none by rw [HDEC.out, hd]; simp)
          clear hd
          go_wp2
          go_ret2
          exact ⟨HBEL.out, .inl ⟨HNO.out, rfl⟩⟩
        | true =>
          have HDN := Lib.hid hd
          clear hd
          go_wp2_with fail
          refine (rencode_any A pn cap (ps.map (·.1)) wr HP.out HFEW.out).mono ?_
          rintro e w7 ⟨rfl, hb7⟩
          have HB7 := Lib.hid hb7
          obtain ⟨t, ht⟩ : ∃ t, ba (postEnc (ps.map (·.1))) = t := ⟨_, rfl⟩
          rw [ht]
          have HT := Lib.hid ht
          clear hb7 ht
          by_cases hts : t = s
          · subst hts
            have HYES := Lib.hid (show postDec l = some (ps.map (·.1)) by rw [HDEC.out, if_pos ⟨HDN.out, ba_inj.1 (HT.out.trans HS.out.symm)⟩])
            go_wp2
            go_ret2
            exact ⟨HBEL.out.trans (HB7.out.mono HBEL.out.size), .inr ⟨_, ps, HYES.out, by rw [HPN.out]; rfl, HOWN.out.below HB7.out⟩⟩
          · have HNO := Lib.hid (show postDec l = none by rw [HDEC.out, if_neg]; rintro ⟨_, e⟩; exact hts (by rw [← HT.out, ← HS.out, e]))
            have hts2 : ¬ t.toList = s.toList := by rw [← HT.out, ← HS.out, ba_toList, ba_toList]; intro e; exact hts (by rw [← HT.out, ← HS.out, e])
            have hne1 : (t.toList == s.toList) = false := by simpa using hts2
            have hne2 : (t.toList != s.toList) = true := by simp [bne, hne1]
            clear hts hts2
            go_wp2
            go_ret2
            exact ⟨HBEL.out.trans (HB7.out.mono HBEL.out.size), .inl ⟨HNO.out, rfl⟩⟩
      · have hk1 : ¬ (j : Int) < (N : Int) := by omega
        clear hgo
        go_wp2_with fail
        refine (rrd_done b r wr HRD.out).mono ?_
        rintro e w6 ⟨rfl, rfl⟩
        cases hd : r.done with
        | false =>
          have HNO := Lib.hid (show postDec l = none by rw [HDEC.out, hd]; simp)
          clear hd
          go_wp2
          go_ret2
          exact ⟨HBEL.out, .inl ⟨HNO.out, rfl⟩⟩
        | true =>
          have HDN := Lib.hid hd
          clear hd
          go_wp2_with fail
          refine (rencode_any A pn cap (ps.map (·.1)) wr HP.out HFEW.out).mono ?_
          rintro e w7 ⟨rfl, hb7⟩
          have HB7 := Lib.hid hb7
          obtain ⟨t, ht⟩ : ∃ t, ba (postEnc (ps.map (·.1))) = t := ⟨_, rfl⟩
          rw [ht]
          have HT := Lib.hid ht
          clear hb7 ht
          by_cases hts : t = s
          · subst hts
            have HYES := Lib.hid (show postDec l = some (ps.map (·.1)) by rw [HDEC.out, if_pos ⟨HDN.out, ba_inj.1 (HT.out.trans HS.out.symm)⟩])
            go_wp2
            go_ret2
            exact ⟨HBEL.out.trans (HB7.out.mono HBEL.out.size), .inr ⟨_, ps, HYES.out, by rw [HPN.out]; rfl, HOWN.out.below HB7.out⟩⟩
          · have HNO := Lib.hid (show postDec l = none by rw [HDEC.out, if_neg]; rintro ⟨_, e⟩; exact hts (by rw [← HT.out, ← HS.out, e]))
            have hts2 : ¬ t.toList = s.toList := by rw [← HT.out, ← HS.out, ba_toList, ba_toList]; intro e; exact hts (by rw [← HT.out, ← HS.out, e])
            have hne1 : (t.toList == s.toList) = false := by simpa using hts2
            have hne2 : (t.toList != s.toList) = true := by simp [bne, hne1]
            clear hts hts2
            go_wp2
            go_ret2
            exact ⟨HBEL.out.trans (HB7.out.mono HBEL.out.size), .inl ⟨HNO.out, rfl⟩⟩
end Go.Proofs.YtfinpehbpcckaaaGreatDoor
end
