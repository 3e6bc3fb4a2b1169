/- The program's table: a struct of 1025 row headers over one array of int16 cells. -/
import Derived.Test.YtfnbchbndmbjaaaRefKeep
namespace Go.Proofs.Ytfnbchbndmbjaaa
open Go.RowKit
set_option linter.unusedVariables false
noncomputable def z48 : Array Value := ((Try.prog.info? 48).bind (·.zero)).elim #[] (·.cells)
theorem z48_size : z48.size = 1025 := by kernel_rfl
def isNil : Value → Bool
  | .slice none 0 0 => true
  | _ => false
theorem isNil_eq {v : Value} (h : isNil v = true) : v = .slice none 0 0 := by
  unfold isNil at h
  split at h
  · rfl
  · cases h
theorem z48_all : z48.toList.all isNil = true := by kernel_rfl
theorem z48_at {i : Nat} (h : i < 1025) : z48[i]? = some (.slice none 0 0) := by
  have hs : i < z48.size := by rw [z48_size]; exact h
  rw [Array.getElem?_eq_getElem hs]
  have := List.all_eq_true.1 z48_all z48[i] (by simp)
  rw [isNil_eq this]
theorem zagg : ((Try.prog.info? 48).bind (·.zero)).elim false (fun z => match z with | .agg _ => true | _ => false) = true := by kernel_rfl
theorem zero48 : ((Try.prog.info? 48).bind (·.zero)).isSome = true := by kernel_rfl
theorem size46 : ((Try.prog.info? 46).map (·.size)).isSome = true := by kernel_rfl
theorem built48 : Try.prog.built 48 [] = some z48 := by
  have h0 := zero48
  unfold Program.built z48
  cases hi : Try.prog.info? 48 with
  | none => rw [hi] at h0; cases h0
  | some it =>
    rw [hi] at h0
    cases hz : it.zero with
    | none => simp [hz] at h0
    | some z =>
      have hs := size46
      cases h46 : Try.prog.info? 46 with
      | none => rw [h46] at hs; cases hs
      | some i46 =>
        have hu : Try.prog.underlying 48 = some _ := Try.underlying48
        simp [hu, hz, h46, Instr.fill]
theorem zeroVal48 (w : World) : (zeroValue 48).run Try.prog w = .ok (.agg z48) w := by
  have h0 := zero48
  cases hi : Try.prog.info? 48 with
  | none => rw [hi] at h0; cases h0
  | some it =>
    rw [hi] at h0
    cases hz : it.zero with
    | none => simp [hz] at h0
    | some z =>
      have hzz : z = .agg z48 := by
        have h1 := zagg
        simp only [hi, Option.bind_some, hz, Option.elim_some] at h1
        cases z with
        | agg c => simp [z48, hi, hz, Value.cells]
        | _ => cases h1
      simp [zeroValue, typeInfo, hi, hz, hzz]
theorem build48 (w : World) : (Instr.build 48 #[]).run Try.prog w = .ok (.agg z48) w := run_build w 48 #[] _ built48
theorem box48 (w : World) : (Instr.box 48 (.agg z48)).run Try.prog w = .ok (.pointer (some ⟨w.heap.size, 0, none⟩)) (w.alloc (.cells z48 48)) := by
  simp [Instr.box, newVar, Value.cells, go_sem]
theorem int16_info : (Try.prog.info? 44).map (fun i => (i.zero, i.size, i.bytes)) = some (some (.int .i16 0), 1, 2) := by kernel_rfl
def zer16 (n : Nat) : Array Value := madeCells #[.int .i16 0] n
theorem zer16_at {n i : Nat} (h : i < n) : (zer16 n)[i]? = some (.int .i16 0) := by simp [zer16, madeCells, h, Nat.mod_one]
theorem make_int16 {o : Nat} (ho : o < 1099511627776) (W : World) : (Instr.makeSlice 45 (.int .i64 (o : Int)) (.int .i64 (o : Int))).run Try.prog W = .ok (.slice (some ⟨W.heap.size, 0, none⟩) o o) (W.alloc (.cells (zer16 o) 44)) := by
  obtain ⟨i0, hi, hz0, hz1, hz2⟩ := info_parts int16_info
  have := run_make (P := Try.prog) W 45 44 i0 (.int .i16 0) Try.underlying45 hi hz0 .i64 .i64 (o : Int) (o : Int) (by omega) (by omega) (by rw [hz2]; omega) (by omega)
  rw [this, hz1, Nat.mul_one]
  rfl

/-- After k row headers: block S holds the headers, block S + 1 the cells. -/
def Heads (w : World) (S m o k : Nat) : Prop :=
  w.heap.size = S + 2 ∧ (∀ r, r < 1025 → ∃ v, w.cell? ⟨S, r, none⟩ = some v ∧ w.frozen? ⟨S, r, none⟩ = false ∧ (r < k → v = .slice (some ⟨S + 1, r * (m + 1), none⟩) (m + 1) (o - r * (m + 1)))) ∧
  ∀ i, i < o → w.cell? ⟨S + 1, i, none⟩ = some (.int .i16 0) ∧ w.frozen? ⟨S + 1, i, none⟩ = false
theorem Heads.start (w : World) (m o : Nat) : Heads ((w.alloc (.cells z48 48)).alloc (.cells (zer16 o) 44)) w.heap.size m o 0 := by
  refine ⟨by simp, fun r hr => ⟨.slice none 0 0, ?_, ?_, fun h => absurd h (by omega)⟩, fun i hi => ⟨?_, ?_⟩⟩
  · rw [World.cell?_alloc_past _ _ _ (by simp), World.cell?_alloc_at _ _ _ _ rfl]; exact z48_at hr
  · rw [World.frozen?_alloc_past _ _ _ (by simp), World.frozen?_alloc_at _ _ _ _ rfl]
  · rw [World.cell?_alloc_at _ _ _ _ (by simp)]; exact zer16_at hi
  · rw [World.frozen?_alloc_at _ _ _ _ (by simp)]
theorem Heads.more {w : World} {S m o k p : Nat} (h : Heads w S m o k) (hk : k < 1025) (hp : k * (m + 1) = p) :
    Heads (w.setCell ⟨S, k, none⟩ (.slice (some ⟨S + 1, p, none⟩) (m + 1) (o - p))) S m o (k + 1) := by
  obtain ⟨hs, h1, h2⟩ := h
  refine ⟨by simp only [World.setCell, Array.size_modify]; exact hs, fun r hr => ?_, fun i hi => ?_⟩
  · obtain ⟨v, hv, hf, hv'⟩ := h1 r hr
    rw [World.frozen?_setCell]
    by_cases e : r = k
    · subst e
      exact ⟨_, World.cell?_setCell_same _ _ _ (u := v) hv, hf, fun _ => by rw [hp]⟩
    · exact ⟨v, by rw [World.cell?_setCell_other _ _ _ _ (by simp <;> omega)]; exact hv, hf, fun hh => hv' (by omega)⟩
  · rw [World.frozen?_setCell, World.cell?_setCell_other _ _ _ _ (by simp)]
    exact h2 i hi
theorem Heads.drewN {w : World} {S m o k : Nat} (h : Heads w S m o k) (n : Nat) : Heads (w.drewN n) S m o k := h

/-- The table in memory: f gives the entries. -/
def T16 (w : World) (S n m o : Nat) (f : Nat → Nat → Nat) : Prop :=
  (∀ r, r ≤ n → w.cell? ⟨S, r, none⟩ = some (.slice (some ⟨S + 1, r * (m + 1), none⟩) (m + 1) (o - r * (m + 1)))) ∧
  ∀ r c, r ≤ n → c ≤ m → w.cell? ⟨S + 1, r * (m + 1) + c, none⟩ = some (.int .i16 (f r c)) ∧ w.frozen? ⟨S + 1, r * (m + 1) + c, none⟩ = false
theorem idx_lt {n m r c : Nat} (hr : r ≤ n) (hc : c ≤ m) : r * (m + 1) + c < (n + 1) * (m + 1) := by
  have : (r + 1) * (m + 1) ≤ (n + 1) * (m + 1) := Nat.mul_le_mul_right _ (by omega)
  rw [Nat.succ_mul] at this
  omega
theorem idx_inj {m r c r' c' : Nat} (hc : c ≤ m) (hc' : c' ≤ m) (h : r * (m + 1) + c = r' * (m + 1) + c') : r = r' ∧ c = c' := by
  have h1 : (r * (m + 1) + c) / (m + 1) = r := by rw [Nat.mul_comm, Nat.mul_add_div (by omega), Nat.div_eq_of_lt (by omega)]; rfl
  have h2 : (r' * (m + 1) + c') / (m + 1) = r' := by rw [Nat.mul_comm, Nat.mul_add_div (by omega), Nat.div_eq_of_lt (by omega)]; rfl
  have e : r = r' := by rw [← h1, ← h2, h]
  subst e
  exact ⟨rfl, by omega⟩
theorem Heads.tab {w : World} {S n m o : Nat} (h : Heads w S m o (n + 1)) (ho : (n + 1) * (m + 1) = o) (hn : n ≤ 1024) : T16 w S n m o (fun _ _ => 0) := by
  refine ⟨fun r hr => ?_, fun r c hr hc => h.2.2 _ (by rw [← ho]; exact idx_lt hr hc)⟩
  obtain ⟨v, hv, _, hv'⟩ := h.2.1 r (by omega)
  rw [hv, hv' (by omega)]
theorem T16.set {w : World} {S n m o : Nat} {f : Nat → Nat → Nat} (h : T16 w S n m o f) {r c : Nat} (hr : r ≤ n) (hc : c ≤ m) (x : Nat) {R : Nat} (hR : r * (m + 1) = R) :
    T16 (w.setCell ⟨S + 1, R + c, none⟩ (.int .i16 x)) S n m o (fun r' c' => if r' = r ∧ c' = c then x else f r' c') := by
  subst hR
  refine ⟨fun r' hr' => ?_, fun r' c' hr' hc' => ?_⟩
  · rw [World.cell?_setCell_other _ _ _ _ (by simp)]; exact h.1 r' hr'
  · rw [World.frozen?_setCell]
    refine ⟨?_, (h.2 r' c' hr' hc').2⟩
    by_cases e : r' = r ∧ c' = c
    · obtain ⟨rfl, rfl⟩ := e
      simpa using World.cell?_setCell_same _ _ _ (u := _) (h.2 r' c' hr' hc').1
    · rw [World.cell?_setCell_other _ _ _ _ (by
        intro ee
        have := congrArg Addr.off ee
        simp only at this
        have := idx_inj hc hc' this
        omega)]
      simp only [if_neg e]; exact (h.2 r' c' hr' hc').1
theorem T16.ext {w : World} {S n m o : Nat} {f g : Nat → Nat → Nat} (h : T16 w S n m o f) (hfg : ∀ r c, r ≤ n → c ≤ m → f r c = g r c) : T16 w S n m o g :=
  ⟨h.1, fun r c hr hc => by rw [← hfg r c hr hc]; exact h.2 r c hr hc⟩
theorem T16.drewN {w : World} {S n m o : Nat} {f : Nat → Nat → Nat} (h : T16 w S n m o f) (k : Nat) : T16 (w.drewN k) S n m o f := h
theorem T16.below {w w' : World} {S n m o B : Nat} {f : Nat → Nat → Nat} (h : T16 w S n m o f) (hb : Below B w w') (hB : S + 1 < B) : T16 w' S n m o f :=
  ⟨fun r hr => (hb.cell (p := ⟨S, r, none⟩) (by simp; omega)).trans (h.1 r hr), fun r c hr hc =>
    ⟨(hb.cell (p := ⟨S + 1, r * (m + 1) + c, none⟩) (by simp; omega)).trans (h.2 r c hr hc).1, (hb.frozen (p := ⟨S + 1, r * (m + 1) + c, none⟩) (by simp; omega)).trans (h.2 r c hr hc).2⟩⟩
theorem t16_step_ne {wr : World} {S n m o q p R : Nat} {a b : List Int} (hn : a.length = n) (hm : b.length = m) (hR : q * (m + 1) = R) (hT : T16 wr S n m o (part a b (q + 1) (p + 1))) (hq : q < n) (hp : p < m) (x1 x2 x : Nat)
    (hx : x1 = part a b (q + 1) (p + 1) (q + 1) p ∧ x2 = part a b (q + 1) (p + 1) q (p + 1)) (he : ¬ gi a q = gi b p) (hmax : x = max x1 x2) :
    T16 (wr.setCell ⟨S + 1, R + p, none⟩ (.int .i16 x)) S n m o (part a b (q + 1) p) := by
  refine (hT.set (r := q) (c := p) (by omega) (by omega) x hR).ext fun r c _ _ => ?_
  rw [part_set a b q p r c]
  by_cases e : r = q ∧ c = p
  · rw [if_pos e, if_pos e, tab_ne (by omega) (by omega) he, hmax, hx.1, hx.2]
    unfold part
    rw [if_pos (by omega), if_pos (by omega)]
  · rw [if_neg e, if_neg e]
theorem t16_step_eq {wr : World} {S n m o q p R : Nat} {a b : List Int} (hn : a.length = n) (hm : b.length = m) (hR : q * (m + 1) = R) (hT : T16 wr S n m o (part a b (q + 1) (p + 1))) (hq : q < n) (hp : p < m) (x3 : Nat)
    (hx : x3 = part a b (q + 1) (p + 1) (q + 1) (p + 1)) (he : gi a q = gi b p) :
    T16 (wr.setCell ⟨S + 1, R + p, none⟩ (.int .i16 ((x3 : Int) + 1))) S n m o (part a b (q + 1) p) := by
  have e3 : (x3 : Int) + 1 = ((x3 + 1 : Nat) : Int) := by omega
  rw [e3]
  refine (hT.set (r := q) (c := p) (by omega) (by omega) (x3 + 1) hR).ext fun r c _ _ => ?_
  rw [part_set a b q p r c]
  by_cases e : r = q ∧ c = p
  · rw [if_pos e, if_pos e, tab_eq (by omega) (by omega) he, hx]
    unfold part
    rw [if_pos (by omega)]
  · rw [if_neg e, if_neg e]
theorem i16_in {x : Int} (h : 0 ≤ x ∧ x ≤ 32767) : IntKind.i16.wrap x = x := by
  simp only [IntKind.wrap, IntKind.bits, IntKind.signed]
  simp
  omega

set_option maxRecDepth 100000 in
set_option maxHeartbeats 1000000 in
theorem newTable_any (A B : Option Addr) (n m c d : Nat) (a b : List Int) (w : World) (ha : Ints w w.heap.size A n a) (hb : Ints w w.heap.size B m b) (hn : n ≤ 1024) (hm : m ≤ 1024) :
    Calls Try.prog 33 #[.slice A n c, .slice B m d] w fun e w' => e = .returned (.pointer (some ⟨w.heap.size, 0, none⟩)) ∧ w.heap.size + 1 < w'.heap.size ∧ T16 w' w.heap.size n m ((n + 1) * (m + 1)) (tab a b) ∧ Below w.heap.size w w' := by
  have HN := Lib.hid ha.len
  have HM := Lib.hid hb.len
  have hbu := zeroVal48
  have hbx := box48
  obtain ⟨o, ho⟩ : ∃ o : Nat, (n + 1) * (m + 1) = o := ⟨_, rfl⟩
  have hob : o ≤ 1050625 := by
    have : (n + 1) * (m + 1) ≤ 1025 * 1025 := Nat.mul_le_mul (by omega) (by omega)
    omega
  have hoi : ((n : Int) + 1) * ((m : Int) + 1) = o := by rw [← ho]; simp
  have HO := Lib.hid ho; clear ho
  have hmk := fun W => make_int16 (o := o) (by omega) W
  go_enter Try.func33, Try.ntmps33
  go_wp2
  go_loopw [7, 23] (fun _ i wr => ∃ k : Nat, k ≤ n + 1 ∧ i = .int .i64 k ∧ Hid (Heads wr w.heap.size m o k) ∧ Below w.heap.size w wr) (fun _ i _ => n + 1 - (intOf i).toNat)
  case atStart => exact ⟨0, by omega, rfl, Lib.hid (Heads.start w m o), ((Below.refl _ _).alloc (Nat.le_refl _) _).alloc (by simp) _⟩
  case round =>
    obtain ⟨k, hk, rfl, hhd, hbel⟩ := hrel
    by_cases hlt : k < n + 1
    · obtain ⟨p, hp⟩ : ∃ p, k * (m + 1) = p := ⟨_, rfl⟩
      obtain ⟨e, he⟩ : ∃ e, (k + 1) * (m + 1) = e := ⟨_, rfl⟩
      have hpe : e = p + (m + 1) := by rw [← he, ← hp, Nat.succ_mul]
      have heo : e ≤ o := by rw [← he, ← HO.out]; exact Nat.mul_le_mul_right _ (by omega)
      have hpi : (k : Int) * ((m : Int) + 1) = p := by rw [← hp]; simp
      have hei : ((k : Int) + 1) * ((m : Int) + 1) = e := by rw [← he]; simp
      have HP := Lib.hid hp
      clear hp he
      obtain ⟨v0, hc0, hf0, _⟩ := hhd.out.2.1 k (by omega)
      have HPE := Lib.hid hpe
      have q1 : p ≤ e := by omega
      have q2 : e ≤ p + (m + 1) := by omega
      have q3 : p + (m + 1) ≤ e := by omega
      clear hpe
      go_wp2
      have z1 : (0 : Int) ≤ p := by omega
      have z2 : (p : Int) ≤ e := by omega
      have z3 : (e : Int) ≤ o := by omega
      have z4 : (0 : Int) ≤ e := by omega
      have z5 : (k : Int) < 1025 := by omega
      have w1 : IntKind.i64.wrap ((k : Int) + 1) = k + 1 := IntWalk.i64_in _ (by omega)
      have w2 : IntKind.i64.wrap ((m : Int) + 1) = m + 1 := IntWalk.i64_in _ (by omega)
      have w3 : IntKind.i64.wrap (p : Int) = p := IntWalk.i64_in _ (by omega)
      have w4 : IntKind.i64.wrap (e : Int) = e := IntWalk.i64_in _ (by omega)
      (refine wp_region_tail 18 (by kernel_rfl) (by kernel_rfl) ?_; simp only [List.take_succ_cons, List.take_zero, List.drop_succ_cons, List.drop_zero]; repeat still_step)
      refine wpStill_nil ?_
      clear w1 w2 w3 w4
      go_wp2
      go_roundw
      case rel => exact ⟨k + 1, by omega, by go_num, Lib.hid (by
        have hpe : e = p + (m + 1) := HPE.out
        rw [show e - p = m + 1 from by omega]
        exact hhd.out.more (by omega) HP.out), (setBelow hbel (Nat.le_refl _) _).drew⟩
      case measure => simp [intOf] <;> omega
    · obtain rfl : k = n + 1 := by omega
      have hT0 := Lib.hid ((hhd.out.tab HO.out hn).ext (g := part a b n m) (fun r c hr hc => by
        rcases part_start a b r c (by rw [HN.out]; exact hr) with h | h
        · rw [HN.out, HM.out] at h; exact h.symm
        · rw [HM.out] at h; omega))
      have hlt2 : w.heap.size + 1 < wr.heap.size := by have := hhd.out.1; omega
      clear hhd
      rw [show ((n + 1 : Nat) : Int) = (n : Int) + 1 from by omega]
      clear hbu hbx hoi hmk
      go_wp2
      go_loopw [8, 9] (fun i _ wq => ∃ k : Nat, k ≤ n ∧ i = .int .i64 ((k : Int) - 1) ∧ Hid (T16 wq w.heap.size n m o (part a b k m)) ∧ w.heap.size + 1 < wq.heap.size ∧ Below w.heap.size w wq) (fun i _ _ => (intOf i + 1).toNat)
      case atStart => exact ⟨n, Nat.le_refl _, rfl, hT0, hlt2, hbel⟩
      case round =>
        clear hbel hT0 hlt2
        obtain ⟨k, hk, rfl, hT, hlt2, hbel⟩ := hrel
        by_cases hk0 : k = 0
        · subst hk0
          have HT := Lib.hid (hT.out.ext (g := tab a b) fun r c hr hc => by
            unfold part
            rw [if_pos (by omega)])
          clear hT
          go_wp2
          go_ret
          exact ⟨rfl, hlt2, by rw [HO.out]; exact HT.out, hbel⟩
        · obtain ⟨q, rfl⟩ : ∃ q, k = q + 1 := ⟨k - 1, by omega⟩
          have e1 : ((q + 1 : Nat) : Int) - 1 = q := by omega
          rw [e1]
          clear hk0 e1
          go_wp2
          go_loopw [9] (fun j wi => ∃ k : Nat, k ≤ m ∧ j = .int .i64 ((k : Int) - 1) ∧ Hid (T16 wi w.heap.size n m o (part a b (q + 1) k)) ∧ w.heap.size + 1 < wi.heap.size ∧ Below w.heap.size w wi) (fun j _ => (intOf j + 1).toNat)
          case atStart => exact ⟨m, Nat.le_refl _, rfl, hT, hlt2, hbel⟩
          case round =>
            clear hbel hT hlt2
            obtain ⟨k, hkm, rfl, hT, hlt2, hbel⟩ := hrel
            by_cases hk0 : k = 0
            · subst hk0
              have HT := Lib.hid (hT.out.ext fun r c hr hc => part_next a b q (by rw [HN.out]; omega) r c (by rw [HN.out]; exact hr) (by rw [HM.out]; exact hc))
              rw [HM.out] at HT
              clear hT
              go_wp2
              go_roundw
              case rel => exact ⟨q, by omega, rfl, HT, hlt2, hbel⟩
              case measure => simp [intOf] <;> omega
            · obtain ⟨p, rfl⟩ : ∃ p, k = p + 1 := ⟨k - 1, by omega⟩
              have e1 : ((p + 1 : Nat) : Int) - 1 = p := by omega
              rw [e1]
              clear hk0 e1
              obtain ⟨R0, hR0⟩ : ∃ R, q * (m + 1) = R := ⟨_, rfl⟩
              obtain ⟨R1, hR1⟩ : ∃ R, (q + 1) * (m + 1) = R := ⟨_, rfl⟩
              have h0 := hT.out.1 q (by omega)
              have h1 := hT.out.1 (q + 1) (by omega)
              obtain ⟨h2, _⟩ := hT.out.2 (q + 1) p (by omega) (by omega)
              obtain ⟨h3, _⟩ := hT.out.2 q (p + 1) (by omega) (by omega)
              obtain ⟨h4, hf4⟩ := hT.out.2 q p (by omega) (by omega)
              obtain ⟨h5, _⟩ := hT.out.2 (q + 1) (p + 1) (by omega) (by omega)
              rw [hR0] at h0 h3 h4 hf4
              rw [hR1] at h1 h2 h5
              have HR := Lib.hid hR0
              clear hR0 hR1
              obtain ⟨x1, hx1⟩ : ∃ x, x = part a b (q + 1) (p + 1) (q + 1) p := ⟨_, rfl⟩
              obtain ⟨x2, hx2⟩ : ∃ x, x = part a b (q + 1) (p + 1) q (p + 1) := ⟨_, rfl⟩
              obtain ⟨x3, hx3⟩ : ∃ x, x = part a b (q + 1) (p + 1) (q + 1) (p + 1) := ⟨_, rfl⟩
              rw [← hx1] at h2
              rw [← hx2] at h3
              rw [← hx3] at h5
              have HX := Lib.hid (And.intro hx1 hx2)
              have HX3 := Lib.hid hx3
              have h50 : x3 ≤ 1024 := by
                rw [hx3]; unfold part; split
                · have := tab_le a b (q + 1) (p + 1); have := HN.out; omega
                · omega
              clear hx1 hx2 hx3
              obtain ⟨ad, rfl, hba, hca0⟩ := ha.at_ (k := q) (by omega)
              obtain ⟨bd, rfl, hbb, hcb0⟩ := hb.at_ (k := p) (by omega)
              have hca : wr.cell? (ad.add q) = some (.int .i64 (gi a q)) := (hbel.cell (p := ad.add q) (by rw [add_block]; exact hba)).trans hca0
              have hcb : wr.cell? (bd.add p) = some (.int .i64 (gi b p)) := (hbel.cell (p := bd.add p) (by rw [add_block]; exact hbb)).trans hcb0
              clear hca0 hcb0
              by_cases he : gi a q = gi b p
              · have HE := Lib.hid he
                have hne : (gi a q == gi b p) = true := by simpa using he
                clear he
                go_wp2
                go_quiet (fail)
                go_wp2
                have b1 : (q : Int) < (n : Int) + 1 := by omega
                have b2 : (q : Int) + 1 < (n : Int) + 1 := by omega
                have b3 : (p : Int) < (m : Int) + 1 := by omega
                have b4 : (p : Int) + 1 < (m : Int) + 1 := by omega
                have b5 : (q : Int) < 1025 := by omega
                have b6 : (q : Int) + 1 < 1025 := by omega
                have z1 : 0 ≤ (q : Int) + 1 := by omega
                have z2 : 0 ≤ (p : Int) + 1 := by omega
                have t1 : ((q : Int) + 1).toNat = q + 1 := by omega
                have t2 : ((p : Int) + 1).toNat = p + 1 := by omega
                have w1 : IntKind.i64.wrap ((q : Int) + 1) = q + 1 := IntWalk.i64_in _ (by omega)
                have w2 : IntKind.i64.wrap ((p : Int) + 1) = p + 1 := IntWalk.i64_in _ (by omega)
                have w3 : IntKind.i16.wrap ((x3 : Int) + 1) = x3 + 1 := i16_in (by omega)
                (refine wp_region_tail 20 (by kernel_rfl) (by kernel_rfl) ?_; simp only [List.take_succ_cons, List.take_zero, List.drop_succ_cons, List.drop_zero]; repeat still_step); refine wpStill_nil ?_
                clear w1 w2 z1 z2 t1 t2 w3
                go_wp2
                go_roundw
                case rel => exact ⟨p, by omega, rfl, Lib.hid ((t16_step_eq HN.out HM.out HR.out hT.out (by omega) (by omega) x3 HX3.out HE.out).drewN _), by show _ < (World.setCell _ _ _).heap.size; rw [setSize]; exact hlt2, drewBelow (setBelow hbel (by omega) _) _⟩
                case measure => simp [intOf] <;> omega
              · have HE := Lib.hid he
                have hne : (gi a q == gi b p) = false := by simpa using he
                clear he
                by_cases hx : x1 < x2
                all_goals
                  go_wp2
                  go_quiet (fail)
                  go_wp2
                  have b1 : (q : Int) < (n : Int) + 1 := by omega
                  have b2 : (q : Int) + 1 < (n : Int) + 1 := by omega
                  have b3 : (p : Int) < (m : Int) + 1 := by omega
                  have b4 : (p : Int) + 1 < (m : Int) + 1 := by omega
                  have b5 : (q : Int) < 1025 := by omega
                  have b6 : (q : Int) + 1 < 1025 := by omega
                  have z1 : 0 ≤ (q : Int) + 1 := by omega
                  have z2 : 0 ≤ (p : Int) + 1 := by omega
                  have t1 : ((q : Int) + 1).toNat = q + 1 := by omega
                  have t2 : ((p : Int) + 1).toNat = p + 1 := by omega
                  have w1 : IntKind.i64.wrap ((q : Int) + 1) = q + 1 := IntWalk.i64_in _ (by omega)
                  have w2 : IntKind.i64.wrap ((p : Int) + 1) = p + 1 := IntWalk.i64_in _ (by omega)
                  (refine wp_region_tail 29 (by kernel_rfl) (by kernel_rfl) ?_; simp only [List.take_succ_cons, List.take_zero, List.drop_succ_cons, List.drop_zero]; repeat still_step); refine wpStill_nil ?_
                  clear w1 w2 z1 z2 t1 t2
                  go_wp2
                  go_roundw
                  case rel => exact ⟨p, by omega, rfl, Lib.hid ((t16_step_ne HN.out HM.out HR.out hT.out (by omega) (by omega) x1 x2 _ HX.out HE.out (by omega)).drewN _), by show _ < (World.setCell _ _ _).heap.size; rw [setSize]; exact hlt2, drewBelow (setBelow hbel (by omega) _) _⟩
                  case measure => simp [intOf] <;> omega
end Go.Proofs.Ytfnbchbndmbjaaa
