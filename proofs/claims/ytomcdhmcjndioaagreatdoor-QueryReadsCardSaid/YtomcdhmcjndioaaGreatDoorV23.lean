/- Reference 37: the words for its parser; fail. Reference 37: what its term holds while it runs; facts of tokens. Layer 37: what the loops of row and query hold. Reference 37: what the loops of row and query hold. -/
import Derived.Test.YtomcdhmcjndioaaGreatDoorV22
import Derived.Test.YtomcdhmcjndioaaGreatDoorV17
import Derived.Test.YtomcdhmcjndioaaGreatDoorV19
section
namespace Go.Proofs.YtomcdhmcjndioaaGreatDoor
open Go.RowKit
set_option linter.unusedVariables false

/-- The parser object at block b. -/
def RPsr (w : World) (b : Nat) (s : List UInt8) (a d er pl : Nat) : Prop := w.heap[b]? = some (.cells #[.string (ba s), .int .i64 (a : Int), .int .i64 (d : Int), .int .i64 (er : Int), .int .i64 (pl : Int)] 49 (0, 0))
theorem RPsr.below {w w' : World} {B b : Nat} {s : List UInt8} {a d er pl : Nat} (h : RPsr w b s a d er pl) (hb : Below B w w') (hg : b < B) : RPsr w' b s a d er pl := (hb.block b hg).trans h
theorem RPsr.off {w w' : World} {F : Nat → Prop} {b : Nat} {s : List UInt8} {a d er pl : Nat} (h : RPsr w b s a d er pl) (ho : Off F w w') (hf : ¬ F b) : RPsr w' b s a d er pl := (ho.block b (heap_lt h) hf).trans h
theorem RPsr.cells {w : World} {b : Nat} {s : List UInt8} {a d er pl : Nat} (h : RPsr w b s a d er pl) : w.cell? ⟨b, 0, none⟩ = some (.string (ba s)) ∧ w.cell? ⟨b, 1, none⟩ = some (.int .i64 (a : Int)) ∧ w.cell? ⟨b, 2, none⟩ = some (.int .i64 (d : Int)) ∧ w.cell? ⟨b, 3, none⟩ = some (.int .i64 (er : Int)) ∧ w.cell? ⟨b, 4, none⟩ = some (.int .i64 (pl : Int)) ∧ (∀ i, w.frozen? ⟨b, i, none⟩ = false) ∧ b < w.heap.size := by
  have h0 := h
  unfold RPsr at h
  refine ⟨?_, ?_, ?_, ?_, ?_, fun i => Lib.frozen_of_heap h i, heap_lt h0⟩ <;> (rw [Lib.cell_of_heap h]; rfl)
theorem RPsr.at_ {w : World} {b : Nat} {s : List UInt8} {a d er pl : Nat} (h : RPsr w b s a d er pl) (a' : Nat) : RPsr (w.setCell ⟨b, 1, none⟩ (.int .i64 (a' : Int))) b s a' d er pl := set_heap h 1 _
theorem RPsr.deep {w : World} {b : Nat} {s : List UInt8} {a d er pl : Nat} (h : RPsr w b s a d er pl) (d' : Nat) : RPsr (w.setCell ⟨b, 2, none⟩ (.int .i64 (d' : Int))) b s a d' er pl := set_heap h 2 _
theorem RPsr.err {w : World} {b : Nat} {s : List UInt8} {a d er pl : Nat} (h : RPsr w b s a d er pl) (e' : Nat) : RPsr (w.setCell ⟨b, 3, none⟩ (.int .i64 (e' : Int))) b s a d e' pl := set_heap h 3 _
theorem RPsr.plc {w : World} {b : Nat} {s : List UInt8} {a d er pl : Nat} (h : RPsr w b s a d er pl) (p' : Nat) : RPsr (w.setCell ⟨b, 4, none⟩ (.int .i64 (p' : Int))) b s a d er p' := set_heap h 4 _
/-- The parser behind a run; behind a fault its depth stays between d and 9. -/
def RSt (W : World) (b : Nat) (s : List UInt8) (d : Nat) (q : Qry) : QRes → Prop
  | .ok q0 a => q = q0 ∧ RPsr W b s a d 0 0
  | .err er a => 0 < er ∧ ∃ d', d ≤ d' ∧ d' ≤ 9 ∧ RPsr W b s s.length d' er a
/-- What a run of the reference's parser hands back. -/
def REnd (w : World) (b : Nat) (s : List UInt8) (d : Nat) (R : QRes) (e : Ending) (w' : World) : Prop :=
  ∃ r q, e = .returned (RawQ.val r) ∧ QOwn w' w.heap.size r q ∧ RawOk r ∧ Off (fun k => k = b) w w' ∧ RSt w' b s d q R
theorem RSt.off {W W' : World} {F : Nat → Prop} {b d : Nat} {s : List UInt8} {q : Qry} {R : QRes} (h : RSt W b s d q R) (ho : Off F W W') (hb : ¬ F b) : RSt W' b s d q R := by
  cases R with
  | ok q0 a => exact ⟨h.1, h.2.off ho hb⟩
  | err er a =>
    obtain ⟨h0, d', h1, h2, h3⟩ := h
    exact ⟨h0, d', h1, h2, h3.off ho hb⟩
theorem RSt.psr {W : World} {b d : Nat} {s : List UInt8} {q : Qry} {R : QRes} (h : RSt W b s d q R) : ∃ d' er pl, d ≤ d' ∧ d' ≤ 9 + d ∧ RPsr W b s (R.place s) d' er pl ∧ (er = 0 ↔ ∃ q0 a, R = .ok q0 a) := by
  cases R with
  | ok q0 a => exact ⟨d, 0, 0, Nat.le_refl _, by omega, h.2, ⟨fun _ => ⟨q0, a, rfl⟩, fun _ => rfl⟩⟩
  | err er a =>
    obtain ⟨h0, d', h1, h2, h3⟩ := h
    exact ⟨d', er, a, h1, by omega, h3, ⟨fun e => by omega, fun ⟨_, _, e⟩ => by cases e⟩⟩
/-- A run whose outcome is kept, its query made another. -/
theorem RSt.map {W : World} {b d : Nat} {s : List UInt8} {q : Qry} {R : QRes} {k : Qry → Qry} (h : RSt W b s d q R) : RSt W b s d (k q) (R.then fun q b => .ok (k q) b) := by
  cases R with
  | ok q0 a => exact ⟨by rw [h.1], h.2⟩
  | err er a => exact h
def RTermC (s : List UInt8) (b d f : Nat) : Prop := ∀ (w : World) (a : Nat), a ≤ s.length → 3 * (s.length - a) + 1 ≤ f → RPsr w b s a d 0 0 →
  Calls Tryz.prog 52 #[.pointer (some ⟨b, 0, none⟩)] w (REnd w b s d (runQ s f .term d a))
def RRowC (s : List UInt8) (b d f : Nat) : Prop := ∀ (w : World) (a : Nat), a ≤ s.length → 3 * (s.length - a) + 2 ≤ f → RPsr w b s a d 0 0 →
  Calls Tryz.prog 35 #[.pointer (some ⟨b, 0, none⟩)] w (REnd w b s d (runQ s f .row d a))
def RQryC (s : List UInt8) (b d f : Nat) : Prop := ∀ (w : World) (a : Nat), a ≤ s.length → 3 * (s.length - a) + 3 ≤ f → RPsr w b s a d 0 0 →
  Calls Tryz.prog 17 #[.pointer (some ⟨b, 0, none⟩)] w (REnd w b s d (runQ s f .qry d a))
/-- fail, by the state it meets. -/
def RFailPost (w : World) (b : Nat) (s : List UInt8) (d er a : Nat) (R : QRes) (e : Ending) (w' : World) : Prop :=
  e = .returned noRaw.val ∧ Off (fun k => k = b) w w' ∧ ∀ q', RSt w' b s d q' (R.then fun _ _ => .err er a)
set_option maxRecDepth 100000 in
set_option maxHeartbeats 4000000 in
theorem rfail_new (s : List UInt8) (b at0 d0 d er a : Nat) (w : World) (hs : s.length ≤ 1000000) (he : 0 < er) (hd : d0 ≤ d) (hd9 : d ≤ 9) (hp : RPsr w b s at0 d 0 0) :
    Calls Tryz.prog 18 #[.pointer (some ⟨b, 0, none⟩), .int .i64 (er : Int), .int .i64 (a : Int)] w (fun e w' => e = .returned noRaw.val ∧ Off (fun k => k = b) w w' ∧ ∀ q', RSt w' b s d0 q' (.err er a)) := by
  obtain ⟨c0, c1, c2, c3, c4, cf, hbw⟩ := hp.cells
  have c3 : w.cell? ⟨b, 3, none⟩ = some (.int .i64 0) := c3
  have HP := Lib.hid hp
  have hne : ¬ w.heap.size = b := by omega
  obtain ⟨sz, hsz⟩ : ∃ z, ba s = z := ⟨_, rfl⟩
  rw [hsz] at c0
  have hszn : (sz.size : Int) = (s.length : Int) := by rw [← hsz, ba_size]
  clear hp hsz
  go_enter Tryz.func18, Tryz.ntmps18
  go_wp2
  refine bodyPost_ret (v := .agg #[.int .i64 0, .int .i64 0, .string ⟨#[]⟩, .int .i64 0, .slice none 0 0]) (by simp [results, Tryz.results18, go_sem]; try rfl) rfl ?_
  have h9 := ((HP.out.err er).plc a).at_ s.length
  have o9 : Off (fun k => k = b) w (((w.setCell ⟨b, 3, none⟩ (.int .i64 (er : Int))).setCell ⟨b, 4, none⟩ (.int .i64 (a : Int))).setCell ⟨b, 1, none⟩ (.int .i64 (s.length : Int))) := (((Off.refl (fun k => k = b) w).setCell (p := ⟨b, 3, none⟩) (.inl rfl) _).setCell (p := ⟨b, 4, none⟩) (.inl rfl) _).setCell (p := ⟨b, 1, none⟩) (.inl rfl) _
  refine ⟨rfl, o9.alloc _, fun q' => ⟨he, d, hd, hd9, (heap_alloc_old _ _ (heap_lt h9)).trans h9⟩⟩
set_option maxRecDepth 100000 in
set_option maxHeartbeats 4000000 in
theorem rfail_old (s : List UInt8) (b at0 d0 d er a e0 p0 : Nat) (w : World) (hs : s.length ≤ 1000000) (he : 0 < e0) (hd : d0 ≤ d) (hd9 : d ≤ 9) (hp : RPsr w b s at0 d e0 p0) :
    Calls Tryz.prog 18 #[.pointer (some ⟨b, 0, none⟩), .int .i64 (er : Int), .int .i64 (a : Int)] w (fun e w' => e = .returned noRaw.val ∧ Off (fun k => k = b) w w' ∧ ∀ q', RSt w' b s d0 q' (.err e0 p0)) := by
  obtain ⟨c0, c1, c2, c3, c4, cf, hbw⟩ := hp.cells
  have g1 : ((e0 : Int) == 0) = false := by simp; omega
  have HP := Lib.hid hp
  have hne : ¬ w.heap.size = b := by omega
  obtain ⟨sz, hsz⟩ : ∃ z, ba s = z := ⟨_, rfl⟩
  rw [hsz] at c0
  have hszn : (sz.size : Int) = (s.length : Int) := by rw [← hsz, ba_size]
  clear hp hsz
  go_enter Tryz.func18, Tryz.ntmps18
  go_wp2
  refine bodyPost_ret (v := .agg #[.int .i64 0, .int .i64 0, .string ⟨#[]⟩, .int .i64 0, .slice none 0 0]) (by simp [results, Tryz.results18, go_sem]; try rfl) rfl ?_
  have h9 := HP.out.at_ s.length
  have o9 : Off (fun k => k = b) w (w.setCell ⟨b, 1, none⟩ (.int .i64 (s.length : Int))) := (Off.refl (fun k => k = b) w).setCell (p := ⟨b, 1, none⟩) (.inl rfl) _
  exact ⟨rfl, o9.alloc _, fun q' => ⟨he, d, hd, hd9, (heap_alloc_old _ _ (heap_lt h9)).trans h9⟩⟩
theorem rfail_st (s : List UInt8) (b d er a : Nat) (w : World) (q : Qry) (R : QRes) (hs : s.length ≤ 1000000) (he : 0 < er) (hd : d ≤ 9) (hst : RSt w b s d q R) :
    Calls Tryz.prog 18 #[.pointer (some ⟨b, 0, none⟩), .int .i64 (er : Int), .int .i64 (a : Int)] w (RFailPost w b s d er a R) := by
  cases R with
  | ok q0 a0 => exact rfail_new s b a0 d d er a w hs he (Nat.le_refl _) hd hst.2
  | err e0 p0 =>
    obtain ⟨h0, d', h1, h2, h3⟩ := hst
    exact rfail_old s b s.length d d' er a e0 p0 w hs h0 h1 h2 h3
end Go.Proofs.YtomcdhmcjndioaaGreatDoor
end
section
namespace Go.Proofs.YtomcdhmcjndioaaGreatDoor
open Go.RowKit
set_option linter.unusedVariables false

/-- The box of a piece of the reference's. -/
def RXBox (w : World) (g : Nat) (i j k : Int) (t : ByteArray) (qd : Bool) (u : ByteArray) (z : Bool) : Prop := w.heap[g]? = some (.cells #[.int .i64 i, .int .i64 j, .int .i64 k, .string t, .bool qd, .string u, .bool z] 51 (0, 0))
theorem RXBox.cells {w : World} {g : Nat} {i j k : Int} {t u : ByteArray} {qd z : Bool} (h : RXBox w g i j k t qd u z) : w.cell? ⟨g, 0, none⟩ = some (.int .i64 i) ∧ w.cell? ⟨g, 1, none⟩ = some (.int .i64 j) ∧ w.cell? ⟨g, 2, none⟩ = some (.int .i64 k) ∧ w.cell? ⟨g, 3, none⟩ = some (.string t) ∧ w.cell? ⟨g, 4, none⟩ = some (.bool qd) ∧ w.cell? ⟨g, 5, none⟩ = some (.string u) ∧ w.cell? ⟨g, 6, none⟩ = some (.bool z) ∧ (∀ i, w.frozen? ⟨g, i, none⟩ = false) ∧ g < w.heap.size := by
  have h0 := h
  unfold RXBox at h
  refine ⟨?_, ?_, ?_, ?_, ?_, ?_, ?_, fun i => Lib.frozen_of_heap h i, heap_lt h0⟩ <;> (rw [Lib.cell_of_heap h]; rfl)
/-- The reference's term while it runs: the parser, the empty result. -/
structure RTS (w W : World) (b : Nat) (s : List UInt8) (a d : Nat) : Prop where
  psr : RPsr W b s a d 0 0
  res : QzAt W w.heap.size
  off : Off (fun k => k = b) w W
  ord : b < w.heap.size
theorem RTS.below {w W W' : World} {b a d : Nat} {s : List UInt8} (h : RTS w W b s a d) (hb : Below W.heap.size W W') : RTS w W' b s a d :=
  ⟨h.psr.below hb (heap_lt h.psr), h.res.below hb (heap_lt h.res), h.off.andThen (Off.of_below (F := fun _ => False) hb (fun k h1 h2 => by omega)) (fun _ _ x => x.elim), h.ord⟩
theorem rts_new {w w1 : World} {b a d : Nat} {s : List UInt8} (hp : RPsr w b s a d 0 0) (hb : Below (w.alloc qObj).heap.size (w.alloc qObj) w1) : RTS w w1 b s a d := by
  have hbw := heap_lt hp
  have h0 : Below w.heap.size w (w.alloc qObj) := (Below.refl w.heap.size w).alloc (Nat.le_refl _) _
  have hz : (w.alloc qObj).heap.size = w.heap.size + 1 := by simp
  exact ⟨(hp.below h0 hbw).below hb (by omega), (qzAt_new w).below hb (by omega), Off.of_below (h0.trans (hb.mono (by omega))) (fun k h1 h2 => by omega), hbw⟩
theorem RTS.at_ {w W : World} {b a d : Nat} {s : List UInt8} (h : RTS w W b s a d) (a' : Nat) : RTS w (W.setCell ⟨b, 1, none⟩ (.int .i64 (a' : Int))) b s a' d :=
  ⟨h.psr.at_ a', (heap_setCell_other W ⟨b, 1, none⟩ w.heap.size _ (by have := h.ord; intro e; simp only at e; omega)).trans h.res, h.off.setCell (p := ⟨b, 1, none⟩) (.inl rfl) _, h.ord⟩
theorem RTS.deep {w W : World} {b a d : Nat} {s : List UInt8} (h : RTS w W b s a d) (d' : Nat) : RTS w (W.setCell ⟨b, 2, none⟩ (.int .i64 (d' : Int))) b s a d' :=
  ⟨h.psr.deep d', (heap_setCell_other W ⟨b, 2, none⟩ w.heap.size _ (by have := h.ord; intro e; simp only at e; omega)).trans h.res, h.off.setCell (p := ⟨b, 2, none⟩) (.inl rfl) _, h.ord⟩
/-- The reference's term's end: the result put into its block. -/
theorem rterm_end {w W w' : World} {b d : Nat} {s : List UInt8} {R : QRes} {r : RawQ} {q : Qry} {B : Nat} (hb : b < w.heap.size) (ho : Off (fun k => k = b) w W) (hB : w.heap.size < B) (hq : QOwn W B r q) (hk : RawOk r) (hs : RSt W b s d q R) (h1 : Off (fun k => k = w.heap.size) W w') : REnd w b s d R (.returned (RawQ.val r)) w' :=
  ⟨r, q, rfl, hq.off h1 (fun k e => by omega) (Nat.le_of_lt hB), hk, ho.andThen h1 (fun i hi e => by omega), hs.off h1 (by omega)⟩
/-- One level up, behind a fault. -/
theorem RSt.less {W : World} {b d : Nat} {s : List UInt8} {q q' : Qry} {e a : Nat} (h : RSt W b s (d + 1) q (.err e a)) : RSt W b s d q' (.err e a) := by
  obtain ⟨h0, d', h1, h2, h3⟩ := h
  exact ⟨h0, d', by omega, h2, h3⟩
/-- The depth that a run leaves, one less. -/
theorem RSt.up {W W' : World} {b d : Nat} {s : List UInt8} {q q' : Qry} {R : QRes} {d' er pl pa : Nat} (h : RSt W b s (d + 1) q R) (hp : RPsr W b s pa d' er pl) (hp' : RPsr W' b s pa (d' - 1) er pl) (hq : ∀ q0 a, R = .ok q0 a → q' = q0) : RSt W' b s d q' R := by
  cases R with
  | ok q0 a =>
    have h1 := h.2
    unfold RPsr at h1 hp
    rw [hp] at h1
    injection h1 with h1
    injection h1 with h1
    simp only [Array.mk.injEq, List.cons.injEq, Value.int.injEq, true_and, and_true, Int.natCast_inj] at h1
    obtain ⟨e1, e2, e3, e4⟩ := h1
    subst e1 e2 e3 e4
    exact ⟨hq q0 pa rfl, by simpa using hp'⟩
  | err e a =>
    obtain ⟨h0, d2, h1, h2, h3⟩ := h
    unfold RPsr at h3 hp
    rw [hp] at h3
    injection h3 with h3
    injection h3 with h3
    simp only [Array.mk.injEq, List.cons.injEq, Value.int.injEq, true_and, and_true, Int.natCast_inj] at h3
    obtain ⟨e1, e2, e3, e4⟩ := h3
    subst e1 e2 e3 e4
    exact ⟨h0, d' - 1, by omega, by omega, hp'⟩
/-- A field's quoted string: what stands ahead of its quote. -/
theorem quo_name {src a : Nat} {r raw t : List UInt8} {f g : Nat} {raw2 : List UInt8} {i j : Nat} (h : quoQ src a r f raw = ⟨i, j, .quo t g raw2⟩) : g = f ∧ raw2 = raw := (fun x => ⟨x.1, x.2.1⟩) (quo_field h)
theorem field_plain {n : List UInt8} (h : 0 < fieldQ n) : 58 ∉ n := by
  intro hm
  have h2 : (58 : UInt8) ∈ smallP n := by
    unfold smallP
    exact List.mem_map.2 ⟨58, hm, by decide⟩
  unfold fieldQ at h
  split at h
  · rename_i e; rw [e] at h2; exact absurd h2 (by decide)
  · split at h
    · rename_i e; rw [e] at h2; exact absurd h2 (by decide)
    · split at h
      · rename_i e; rw [e] at h2; exact absurd h2 (by decide)
      · split at h
        · rename_i e; rw [e] at h2; exact absurd h2 (by decide)
        · split at h
          · rename_i e; rw [e] at h2; exact absurd h2 (by decide)
          · omega
theorem field_raw {raw : List UInt8} {f : Nat} (h1 : raw.getLast? = some 58) (h2 : fieldQ raw.dropLast = f + 1) : 58 ∈ raw ∧ fieldQ (nameQ raw) = f + 1 := by
  have hne : raw ≠ [] := by rintro rfl; cases h1
  have hs : raw = raw.dropLast ++ [58] := by
    have h3 := List.dropLast_concat_getLast hne
    have h4 : raw.getLast hne = 58 := by
      have h5 := List.getLast?_eq_some_getLast hne
      rw [h1] at h5
      injection h5 with h5
      exact h5.symm
    rw [h4] at h3
    exact h3.symm
  have hp := field_plain (n := raw.dropLast) (by omega)
  refine ⟨by rw [hs]; simp, ?_⟩
  have hn : nameQ raw = raw.dropLast := by
    unfold nameQ
    rw [hs, List.dropLast_concat, List.takeWhile_append_of_pos (fun x hx => by
      have : x ≠ 58 := fun e => hp (e ▸ hx)
      simpa using this)]
    simp
  rw [hn, h2]
/-- A quoted string of a field, as a piece of the text. -/
theorem peek_fld {s : List UInt8} {a i j : Nat} {t raw : List UInt8} {f : Nat} (h : peekQ s a = ⟨i, j, .quo t (f + 1) raw⟩) : 58 ∈ raw ∧ fieldQ (nameQ raw) = f + 1 ∧ raw.length ≤ s.length := by
  unfold peekQ at h
  have hl : (s.drop (a + gapQ (s.drop a))).length ≤ s.length := by rw [List.length_drop]; omega
  obtain ⟨l, hL⟩ : ∃ l, s.drop (a + gapQ (s.drop a)) = l := ⟨_, rfl⟩
  rw [hL] at hl h
  cases l with
  | nil => unfold tokQ at h; injection h with h1 h2 h3; cases h3
  | cons c r =>
    unfold tokQ at h
    dsimp only at h
    split at h
    · injection h with h1 h2 h3; cases h3
    · split at h
      · injection h with h1 h2 h3; cases h3
      · split at h
        · obtain ⟨h1, h2⟩ := quo_name h
          omega
        · split at h
          · injection h with h1 h2 h3; cases h3
          · unfold bareQ at h
            dsimp only at h
            have ht : ((c :: r).takeWhile (fun c => !edgeQ c)).length ≤ (c :: r).length := (List.takeWhile_prefix _).length_le
            split at h
            · split at h
              · rename_i hc
                obtain ⟨h1, h2⟩ := quo_name h
                subst h2
                obtain ⟨h3, h4⟩ := field_raw hc.1 h1.symm
                exact ⟨h3, h4, by omega⟩
              · injection h with h1 h2 h3; cases h3
            · injection h with h1 h2 h3; cases h3
/-- A piece of the reference's by its words; its kind tells a closing parenthesis. -/
theorem rpcV_shut (n : Nat) (x : Pce) : ∃ (i j k : Int) (T : ByteArray) (qd : Bool) (U : ByteArray) (z : Bool), rpcV n x = .agg #[.int .i64 i, .int .i64 j, .int .i64 k, .string T, .bool qd, .string U, .bool z] ∧ (shutB x.tok = true → (k == 2) = true ∧ j = (x.dst : Nat)) ∧ (shutB x.tok = false → (k == 2) = false) ∧ i = (x.src : Nat) := by
  obtain ⟨i, j, tok⟩ := x
  cases tok with
  | quo t f raw => cases f <;> exact ⟨_, _, _, _, _, _, _, rfl, by simp [shutB], by simp [shutB], rfl⟩
  | _ => exact ⟨_, _, _, _, _, _, _, rfl, by simp [shutB], by simp [shutB], rfl⟩
/-- Two strings that differ, in the walk's words. -/
theorem str_not {t l : List UInt8} (h : t ≠ l) : ((ba t).toList == (ba l).toList) = false ∧ ((ba l).toList == (ba t).toList) = false ∧ ¬ (ba t).toList = (ba l).toList ∧ ¬ (ba l).toList = (ba t).toList ∧ decide (ba t = ba l) = false ∧ ¬ ba t = ba l := by
  rw [ba_toList, ba_toList]
  exact ⟨by simpa using h, by simpa using fun e => h e.symm, h, fun e => h e.symm, decide_eq_false (fun e => h (ba_inj.1 e)), fun e => h (ba_inj.1 e)⟩
/-- A negation's end. -/
theorem rnot_fin {w W2 w3 : World} {b d gq : Nat} {s : List UInt8} {R : QRes} {r : RawQ} {q : Qry} {d' er pl : Nat} (hbw : b < w.heap.size) (hg1 : w.heap.size < gq) (hg2 : gq < W2.heap.size) (ho : Off (fun k => k = b) w W2) (hq : QOwn w3 W2.heap.size r q) (hk : RawOk r) (ho3 : Off (fun k => k = b) W2 w3) (hst : RSt w3 b s (d + 1) q R) (hps : RPsr w3 b s (R.place s) d' er pl) (h1 : 1 ≤ d') :
    REnd w b s d (R.then fun q b => .ok (.mk 13 0 [] 0 [q]) b) (.returned (RawQ.val ⟨13, 0, [], 0, (some ⟨w3.heap.size, 0, none⟩, 1, 1)⟩)) (((((((((((((w3.setCell ⟨gq, 0, none⟩ (.int .i64 13)).setCell ⟨gq, 1, none⟩ (.int .i64 0)).setCell ⟨gq, 2, none⟩ (.string ⟨#[]⟩)).setCell ⟨gq, 3, none⟩ (.int .i64 0)).setCell ⟨gq, 4, none⟩ (.slice (some ⟨w3.heap.size, 0, none⟩) 1 1)).setCell ⟨b, 2, none⟩ (.int .i64 ((d' : Int) - 1))).setCell ⟨w.heap.size, 0, none⟩ (.int .i64 13)).setCell ⟨w.heap.size, 1, none⟩ (.int .i64 0)).setCell ⟨w.heap.size, 2, none⟩ (.string ⟨#[]⟩)).setCell ⟨w.heap.size, 3, none⟩ (.int .i64 0)).setCell ⟨w.heap.size, 4, none⟩ (.slice (some ⟨w3.heap.size, 0, none⟩) 1 1))).alloc (.cells #[.int .i64 r.op, .int .i64 r.fld, .string (ba r.text), .int .i64 r.n, .slice r.kids.1 r.kids.2.1 r.kids.2.2] 25)) := by
  have o1 := put5_off w3 gq (.int .i64 13) (.int .i64 0) (.string ⟨#[]⟩) (.int .i64 0) (.slice (some ⟨w3.heap.size, 0, none⟩) 1 1)
  obtain ⟨X1, hX1⟩ : ∃ X1, ((((w3.setCell ⟨gq, 0, none⟩ (.int .i64 13)).setCell ⟨gq, 1, none⟩ (.int .i64 0)).setCell ⟨gq, 2, none⟩ (.string ⟨#[]⟩)).setCell ⟨gq, 3, none⟩ (.int .i64 0)).setCell ⟨gq, 4, none⟩ (.slice (some ⟨w3.heap.size, 0, none⟩) 1 1) = X1 := ⟨_, rfl⟩
  have z1 : X1.heap.size = w3.heap.size := by rw [← hX1]; simp
  rw [hX1] at o1 ⊢
  have o2 : Off (fun k => k = b) X1 (X1.setCell ⟨b, 2, none⟩ (.int .i64 ((d' : Int) - 1))) := (Off.refl (fun k => k = b) X1).setCell (p := ⟨b, 2, none⟩) (.inl rfl) _
  have p1 : RPsr X1 b s (R.place s) d' er pl := hps.off o1 (by omega)
  have p2 : RPsr (X1.setCell ⟨b, 2, none⟩ (.int .i64 ((d' : Int) - 1))) b s (R.place s) (d' - 1) er pl := by
    have h := p1.deep (d' - 1)
    rw [show ((d' - 1 : Nat) : Int) = (d' : Int) - 1 by omega] at h
    exact h
  obtain ⟨X2, hX2⟩ : ∃ X2, X1.setCell ⟨b, 2, none⟩ (.int .i64 ((d' : Int) - 1)) = X2 := ⟨_, rfl⟩
  have z2 : X2.heap.size = w3.heap.size := by rw [← hX2]; simp [z1]
  rw [hX2] at o2 p2 ⊢
  have o3 := put5_off X2 w.heap.size (.int .i64 13) (.int .i64 0) (.string ⟨#[]⟩) (.int .i64 0) (.slice (some ⟨w3.heap.size, 0, none⟩) 1 1)
  obtain ⟨X3, hX3⟩ : ∃ X3, ((((X2.setCell ⟨w.heap.size, 0, none⟩ (.int .i64 13)).setCell ⟨w.heap.size, 1, none⟩ (.int .i64 0)).setCell ⟨w.heap.size, 2, none⟩ (.string ⟨#[]⟩)).setCell ⟨w.heap.size, 3, none⟩ (.int .i64 0)).setCell ⟨w.heap.size, 4, none⟩ (.slice (some ⟨w3.heap.size, 0, none⟩) 1 1) = X3 := ⟨_, rfl⟩
  have z3 : X3.heap.size = w3.heap.size := by rw [← hX3]; simp [z2]
  rw [hX3] at o3 ⊢
  have hs := ho.size
  have hs3 := ho3.size
  have hq3 : QOwn X3 W2.heap.size r q := (((hq.off o1 (fun k e => by omega) (Nat.le_refl _)).off o2 (fun k e => by omega) (Nat.le_refl _)).off o3 (fun k e => by omega) (Nat.le_refl _))
  obtain ⟨A', c', e', hq'⟩ := (QList.one (show W2.heap.size ≤ X3.heap.size by omega) hq3 hk).parent 13
  rw [z3] at e'
  injection e' with e1 e2 e3
  subst e1
  subst e3
  have p3 : RPsr X3 b s (R.place s) (d' - 1) er pl := p2.off o3 (by omega)
  have p4 : RPsr (X3.alloc (.cells #[.int .i64 r.op, .int .i64 r.fld, .string (ba r.text), .int .i64 r.n, .slice r.kids.1 r.kids.2.1 r.kids.2.2] 25)) b s (R.place s) (d' - 1) er pl := (heap_alloc_old _ _ (heap_lt p3)).trans p3
  refine ⟨_, .mk 13 0 [] 0 [q], rfl, hq'.more (by omega), ⟨⟨by dsimp only; omega, by dsimp only; omega⟩, ⟨by dsimp only; omega, by dsimp only; omega⟩, ⟨by dsimp only; omega, by dsimp only; omega⟩⟩, ?_, ?_⟩
  · exact (((((ho.trans ho3).andThen o1 (fun i hi e => by omega)).trans o2).andThen o3 (fun i hi e => by omega)).alloc _)
  · have h5 : RSt (X3.alloc (.cells #[.int .i64 r.op, .int .i64 r.fld, .string (ba r.text), .int .i64 r.n, .slice r.kids.1 r.kids.2.1 r.kids.2.2] 25)) b s d q R := hst.up hps p4 (fun q0 a e => by rw [e] at hst; exact hst.1)
    exact h5.map (k := fun q => .mk 13 0 [] 0 [q])
/-- A parenthesis' end. -/
theorem rbra_fin {w w4 : World} {b d pa B : Nat} {s : List UInt8} {r : RawQ} {q : Qry} {o : Obj} (hbw : b < w.heap.size) (hB : w.heap.size < B) (ho : Off (fun k => k = b) w w4) (hq : QOwn w4 B r q) (hk : RawOk r) (hps : RPsr w4 b s pa (d + 1) 0 0) (a' : Nat) :
    REnd w b s d (.ok q a') (.returned (RawQ.val r)) (((((((w4.setCell ⟨b, 1, none⟩ (.int .i64 (a' : Int))).setCell ⟨b, 2, none⟩ (.int .i64 (d : Int))).setCell ⟨w.heap.size, 0, none⟩ (.int .i64 r.op)).setCell ⟨w.heap.size, 1, none⟩ (.int .i64 r.fld)).setCell ⟨w.heap.size, 2, none⟩ (.string (ba r.text))).setCell ⟨w.heap.size, 3, none⟩ (.int .i64 r.n)).setCell ⟨w.heap.size, 4, none⟩ (.slice r.kids.1 r.kids.2.1 r.kids.2.2) |>.alloc o) := by
  have p2 : RPsr ((w4.setCell ⟨b, 1, none⟩ (.int .i64 (a' : Int))).setCell ⟨b, 2, none⟩ (.int .i64 (d : Int))) b s a' d 0 0 := (hps.at_ a').deep d
  have o2 : Off (fun k => k = b) w4 ((w4.setCell ⟨b, 1, none⟩ (.int .i64 (a' : Int))).setCell ⟨b, 2, none⟩ (.int .i64 (d : Int))) := ((Off.refl (fun k => k = b) w4).setCell (p := ⟨b, 1, none⟩) (.inl rfl) _).setCell (p := ⟨b, 2, none⟩) (.inl rfl) _
  obtain ⟨X2, hX2⟩ : ∃ X2, (w4.setCell ⟨b, 1, none⟩ (.int .i64 (a' : Int))).setCell ⟨b, 2, none⟩ (.int .i64 (d : Int)) = X2 := ⟨_, rfl⟩
  rw [hX2] at p2 o2 ⊢
  have o3 := (put5_off X2 w.heap.size (.int .i64 r.op) (.int .i64 r.fld) (.string (ba r.text)) (.int .i64 r.n) (.slice r.kids.1 r.kids.2.1 r.kids.2.2)).alloc o
  have hq2 := hq.off o2 (B' := B) (fun k e => by omega) (Nat.le_refl _)
  exact rterm_end hbw (ho.trans o2) hB hq2 hk (show RSt X2 b s d q (.ok q a') from ⟨rfl, p2⟩) o3
end Go.Proofs.YtomcdhmcjndioaaGreatDoor
end
section
namespace Go.Proofs.YtomcdhmcjndioaaGreatDoor
open Go.RowKit
set_option linter.unusedVariables false

/-- A list of queries while a loop collects it; R: how the last one was read, q: what it gave. -/
structure LpMid (w : World) (b B0 : Nat) (s : List UInt8) (d : Nat) (v : Value) (l : List Qry) (R : QRes) (q : Qry) (W : World) : Prop where
  lst : QList W (w.heap.size + 1) v l
  pst : PSt (w.alloc qObj) W b s d q R
  res : QzAt W w.heap.size
  off : Off (fun k => k = b) (w.alloc qObj) W
  tab : QTB W B0
  ord : b < w.heap.size ∧ B0 ≤ b
theorem LpMid.size {w W : World} {b B0 d : Nat} {s : List UInt8} {v : Value} {l : List Qry} {R : QRes} {q : Qry} (h : LpMid w b B0 s d v l R q W) : w.heap.size < W.heap.size := heap_lt h.res
theorem LpMid.below {w W W' : World} {b B0 d : Nat} {s : List UInt8} {v : Value} {l : List Qry} {R : QRes} {q : Qry} (h : LpMid w b B0 s d v l R q W) (hb : Below W.heap.size W W') : LpMid w b B0 s d v l R q W' :=
  ⟨h.lst.below hb, h.pst.kept (F := fun _ => False) (Off.of_below hb (fun k h1 h2 => by omega)) (fun x => x) (fun _ x => x.elim), h.res.below hb (heap_lt h.res),
    h.off.andThen (Off.of_below (F := fun _ => False) hb (fun k h1 h2 => by omega)) (fun _ _ x => x.elim), h.tab.below (hb.mono (by have := h.ord; have := h.size; omega)), h.ord⟩
/-- The box of a piece. -/
def LpBox (W : World) (gx : Nat) (x : Pce) : Prop := ∃ (k j : Int) (T : ByteArray) (f : Int) (z : Bool), pcV x = .agg #[.int .i64 k, .int .i64 (x.src : Nat), .int .i64 j, .string T, .int .i64 f, .bool z] ∧ XBox W gx k (x.src : Nat) j T f z
/-- What the words of a piece tell of its token. -/
theorem pcV_tells {x : Pce} {k i j f : Int} {T : ByteArray} {z : Bool} (h : pcV x = .agg #[.int .i64 k, .int .i64 i, .int .i64 j, .string T, .int .i64 f, .bool z]) : (k == 0) = finB x.tok ∧ (k == 2) = shutB x.tok ∧ ∀ w, isBare w x.tok = true → j = (x.dst : Nat) := by
  obtain ⟨a, c, tok⟩ := x
  cases tok <;> (unfold pcV at h; dsimp only at h; injection h with h; simp only [Array.mk.injEq, List.cons.injEq, Value.int.injEq, true_and] at h; obtain ⟨h1, h2, h3, -⟩ := h; subst h1; exact ⟨rfl, rfl, fun w hw => by first | cases hw | exact h3.symm⟩)
theorem stopRow_is (t : QTok) : stopRow t = (finB t || shutB t || isBare wOR t) := by cases t <;> rfl
/-- One more query is read: the list behind the append. -/
theorem lp_next {w wr W w3 : World} {b B0 d a0 : Nat} {s : List UInt8} {v : Value} {l : List Qry} {q1 : Qry} {r : RawQ} {q : Qry} {R : QRes} (H : LpMid w b B0 s d v l (.ok q1 a0) q1 wr) (hW : Off (fun k => k = b) wr W) (hq : QOwn w3 W.heap.size r q) (hk : RawOk r) (ho : Off (fun k => k = b) W w3) (hst : PSt W w3 b s d q R) (obj : Obj) :
    ∃ raws, OwnRaws (w3.alloc obj) (w.heap.size + 1) v raws ∧ raws.length = l.length ∧ ∀ v' w5, OwnRaws w5 (w.heap.size + 1) v' (raws ++ [r]) → (w3.alloc obj).grownBy w5 v.ownBlock → (v'.ownBlock = v.ownBlock ∨ ∃ k, v'.ownBlock = some k ∧ (w3.alloc obj).heap.size ≤ k) → LpMid w b B0 s d v' (l ++ [q]) R q w5 ∧ ∀ gx k i j t f z, gx ≠ b → XBox wr gx k i j t f z → XBox w5 gx k i j t f z := by
  obtain ⟨ob, oB⟩ := H.ord
  have hz := H.size
  have hF : ∀ k, (fun k => k = b) k → k < w.heap.size + 1 := fun k e => by omega
  have hLW : QList W (w.heap.size + 1) v l := H.lst.off hW hF
  have hL3 : QList w3 (w.heap.size + 1) v l := hLW.off ho hF
  have hoa : Below w3.heap.size w3 (w3.alloc obj) := (Below.refl _ _).alloc (Nat.le_refl _) _
  have hL4 := hL3.below hoa
  obtain ⟨raws, h1, h2, h3⟩ := hL4.row
  obtain ⟨raws', h1', _, _⟩ := hLW.row
  refine ⟨raws, h1, h2, fun v' w5 g1 g2 g3 => ?_⟩
  have hlt := h1.row.lt
  have hlt' := h1'.row.lt
  have hs1 := hW.size
  have hs2 := ho.size
  have hs3 := hoa.size
  have hgo : ∀ F : Nat → Prop, (∀ k, v.ownBlock = some k → F k ∨ (w3.alloc obj).heap.size ≤ k) → Off F (w3.alloc obj) w5 := fun F hF => (Off.refl F _).grown g2 hF
  have hq4 : QDeep (w3.alloc obj) (fun b => w.heap.size + 1 ≤ b ∧ v.ownBlock ≠ some b) r q := QDeep.more (QOwn.below hq hoa) fun k hk => ⟨by omega, fun e => by have := (hlt' k e).2; omega⟩
  have o5 : Off (fun k => v.ownBlock = some k) (w3.alloc obj) w5 := hgo _ fun k e => .inl e
  have hxb : ∀ gx k i j t f z, gx ≠ b → XBox wr gx k i j t f z → XBox w5 gx k i j t f z := fun gx k i j t f z hgb hx => by
    have hlx := heap_lt hx
    have e1 : W.heap[gx]? = wr.heap[gx]? := hW.block _ hlx hgb
    have e2 : w3.heap[gx]? = W.heap[gx]? := ho.block _ (by omega) hgb
    have e3 : (w3.alloc obj).heap[gx]? = w3.heap[gx]? := heap_alloc_old _ _ (by omega)
    have h4 : XBox (w3.alloc obj) gx k i j t f z := ((e3.trans e2).trans e1).trans hx
    refine (o5.block gx (by omega) (fun e => ?_)).trans h4
    rcases h1.row.2 with ⟨hv, _⟩ | ⟨g, cap, cur, hv, _, hg, _⟩
    · rw [hv] at e; cases e
    · rw [hv] at e
      injection e with e
      have e : g = gx := e
      rw [e] at hg
      unfold XBox at h4
      rw [h4] at hg
      injection hg with hg
      injection hg with _ hg
      cases hg
  refine ⟨⟨QList.push h2 h3 hq4 g1 g2 g3, ?_, ?_, ?_, ?_, H.ord⟩, hxb⟩
  · have p4 : PSt W (w3.alloc obj) b s d q R := hst.kept (F := fun _ => False) (Off.of_below hoa (fun k h1 h2 => by omega)) (fun x => x) (fun _ x => x.elim)
    have p5 : PSt W w5 b s d q R := p4.kept o5 (fun e => by have := (hlt' b e).1; omega) (fun k e => (hlt' k e).2)
    exact p5.base (by simp only [World.size_alloc]; omega)
  · have e1 : W.heap[w.heap.size]? = wr.heap[w.heap.size]? := hW.block _ hz (by omega)
    have e2 : w3.heap[w.heap.size]? = W.heap[w.heap.size]? := ho.block _ (by omega) (by omega)
    have e3 : (w3.alloc obj).heap[w.heap.size]? = w3.heap[w.heap.size]? := heap_alloc_old _ _ (by omega)
    have e4 : w5.heap[w.heap.size]? = (w3.alloc obj).heap[w.heap.size]? := o5.block _ (by omega) (fun e => by have := (hlt _ e).1; omega)
    exact (((e4.trans e3).trans e2).trans e1).trans H.res
  · exact ((((H.off.trans hW).trans ho).alloc obj).andThen o5 fun k hk e => by have := (hlt k e).1; simp only [World.size_alloc] at hk; omega)
  · have t1 := H.tab.off oB (by omega) hW
    have t2 := t1.off oB (by omega) ho
    exact (t2.below (hoa.mono (by omega))).below (o5.below (by omega) (fun k e => by have := (hlt k e).1; omega))
/-- What a loop holds: the list, the parser behind the last run, the next token's box. K: the kind that is left; RS: what comes of all. -/
structure LpRel (w : World) (b B0 : Nat) (s : List UInt8) (d fm : Nat) (K : List Qry → QKind) (RS : QRes) (v : Value) (gx : Nat) (l : List Qry) (R : QRes) (q : Qry) (W : World) : Prop where
  mid : LpMid w b B0 s d v l R q W
  box : LpBox W gx (peekQ s (R.place s))
  ord : w.heap.size < gx
  len : l.length ≤ s.length + 1
  isOk : ∀ q0 a, R = .ok q0 a → a ≤ s.length ∧ l.length ≤ a ∧ ∃ g, g ≤ fm ∧ 3 * (s.length - a) + 2 ≤ g ∧ RS = runQ s g (K l) d a
  isErr : ∀ e a, R = .err e a → RS = .err e a
theorem LpRel.below {w W W' : World} {b B0 d fm gx : Nat} {s : List UInt8} {K : List Qry → QKind} {RS R : QRes} {v : Value} {l : List Qry} {q : Qry} (h : LpRel w b B0 s d fm K RS v gx l R q W) (hb : Below W.heap.size W W') : LpRel w b B0 s d fm K RS v gx l R q W' := by
  refine ⟨h.mid.below hb, ?_, h.ord, h.len, h.isOk, h.isErr⟩
  obtain ⟨k, j, T, f, z, h1, h2⟩ := h.box
  exact ⟨k, j, T, f, z, h1, (hb.block gx (heap_lt h2)).trans h2⟩
/-- What is left to read, told by the world (the loop's measure). -/
def lpLeft (b m : Nat) (W : World) : Nat :=
  match W.cell? ⟨b, 3, none⟩ with
  | some (.pointer none) => (match W.cell? ⟨b, 1, none⟩ with
    | some (.int .i64 a) => m - a.toNat + 1
    | _ => 0)
  | _ => 0
theorem lpLeft_ok {W : World} {b a d : Nat} {s : List UInt8} (h : Psr W b s a d (.pointer none)) : lpLeft b s.length W = s.length - a + 1 := by
  unfold lpLeft
  rw [h.cells.2.2.2.1, h.cells.2.1]
  rfl
theorem lpLeft_err {W : World} {b a d g : Nat} {s : List UInt8} (h : Psr W b s a d (.pointer (some ⟨g, 0, none⟩))) : lpLeft b s.length W = 0 := by
  unfold lpLeft
  rw [h.cells.2.2.2.1]
/-- The measure falls when the next query is read. -/
theorem lp_less {w0 wr w0' wf : World} {b d a0 : Nat} {s : List UInt8} {q1 q : Qry} {R : QRes} (h : PSt w0 wr b s d q1 (.ok q1 a0)) (h2 : PSt w0' wf b s d q R) (ha : a0 ≤ s.length) (hon : ∀ q0 a, R = .ok q0 a → a0 < a ∧ a ≤ s.length) : lpLeft b s.length wf < lpLeft b s.length wr := by
  rw [lpLeft_ok h.2]
  cases R with
  | ok q0 a =>
    have := hon q0 a rfl
    rw [lpLeft_ok h2.2]
    omega
  | err e a =>
    obtain ⟨g, _, _, h3, _⟩ := h2
    rw [lpLeft_err h3]
    omega
theorem PSt.place {w0 W : World} {b d : Nat} {s : List UInt8} {q : Qry} {R : QRes} (h : PSt w0 W b s d q R) : ∃ fl, Psr W b s (R.place s) d fl := h.psr
/-- The next token is put into its box: the loop may go on. -/
theorem lp_done {w w5 wf : World} {b B0 d a0 fm g gx : Nat} {s : List UInt8} {K : List Qry → QKind} {RS R : QRes} {v' : Value} {l : List Qry} {q : Qry} (hm : LpMid w b B0 s d v' (l ++ [q]) R q w5) (hb : Below w5.heap.size w5 wf) (hx : LpBox wf gx (peekQ s (R.place s))) (hgx : w.heap.size < gx)
    (hl : l.length ≤ a0) (ha : a0 ≤ s.length) (hg : g + 1 ≤ fm) (hfu : 3 * (s.length - a0) + 2 ≤ g + 1) (hon : ∀ q0 a, R = .ok q0 a → a0 < a ∧ a ≤ s.length) (hRS : RS = R.then fun q b => runQ s g (K (l ++ [q])) d b) :
    LpRel w b B0 s d fm K RS v' gx (l ++ [q]) R q wf := by
  refine ⟨hm.below hb, hx, hgx, by simp; omega, fun q0 a e => ?_, fun e a he => by rw [hRS, he]; rfl⟩
  have h1 := hon q0 a e
  have hq0 : q = q0 := by have h := hm.pst; rw [e] at h; exact h.1
  exact ⟨h1.2, by simp; omega, g, by omega, by omega, by rw [hRS, e, hq0]; rfl⟩
/-- The result of a loop, by whatever way it ends. -/
theorem rows_end {s : List UInt8} {l : List Qry} {g d a : Nat} (hg : 1 ≤ g) (h : stopRow (peekQ s a).tok = true) : runQ s g (.rows l) d a = .ok (joinQ 11 l) a := by
  cases g with
  | zero => omega
  | succ g =>
    conv => lhs; unfold runQ
    rw [if_pos h]
theorem qrys_end {s : List UInt8} {l : List Qry} {g d a : Nat} (hg : 1 ≤ g) (h : isBare wOR (peekQ s a).tok = false) : runQ s g (.qrys l) d a = .ok (joinQ 12 l) a := by
  cases g with
  | zero => omega
  | succ g =>
    conv => lhs; unfold runQ
    rw [h]
    rfl
theorem rows_on {s : List UInt8} {l : List Qry} {g d a : Nat} (h : stopRow (peekQ s a).tok = false) : runQ s (g + 1) (.rows l) d a = (runQ s g .term d (if isBare wAND (peekQ s a).tok then (peekQ s a).dst else a)).then fun q b => runQ s g (.rows (l ++ [q])) d b := by
  conv => lhs; unfold runQ
  rw [h]
  rfl
theorem qrys_on {s : List UInt8} {l : List Qry} {g d a : Nat} (h : isBare wOR (peekQ s a).tok = true) : runQ s (g + 1) (.qrys l) d a = (runQ s g .row d (peekQ s a).dst).then fun q b => runQ s g (.qrys (l ++ [q])) d b := by
  conv => lhs; unfold runQ
  rw [if_pos h]
/-- Six cells of a piece's box. -/
theorem put6_box {W : World} {g : Nat} {k i j f : Int} {t : ByteArray} {z : Bool} (h : XBox W g k i j t f z) (k' i' j' f' : Int) (t' : ByteArray) (z' : Bool) :
    XBox ((((((W.setCell ⟨g, 0, none⟩ (.int .i64 k')).setCell ⟨g, 1, none⟩ (.int .i64 i')).setCell ⟨g, 2, none⟩ (.int .i64 j')).setCell ⟨g, 3, none⟩ (.string t')).setCell ⟨g, 4, none⟩ (.int .i64 f')).setCell ⟨g, 5, none⟩ (.bool z')) g k' i' j' t' f' z' :=
  set_heap (set_heap (set_heap (set_heap (set_heap (set_heap h 0 _) 1 _) 2 _) 3 _) 4 _) 5 _
theorem put6_below {B : Nat} {w0 W : World} (g : Nat) (v0 v1 v2 v3 v4 v5 : Value) (h : Below B w0 W) (hg : B ≤ g) : Below B w0 ((((((W.setCell ⟨g, 0, none⟩ v0).setCell ⟨g, 1, none⟩ v1).setCell ⟨g, 2, none⟩ v2).setCell ⟨g, 3, none⟩ v3).setCell ⟨g, 4, none⟩ v4).setCell ⟨g, 5, none⟩ v5) := by
  iterate 6 refine Below.setCell ?_ hg _
  exact h
end Go.Proofs.YtomcdhmcjndioaaGreatDoor
end
section
namespace Go.Proofs.YtomcdhmcjndioaaGreatDoor
open Go.RowKit
set_option linter.unusedVariables false

/-- A list of queries while a loop of the reference's collects it; R: how the last one was read, q: what it gave. -/
structure RLMid (w : World) (b : Nat) (s : List UInt8) (d : Nat) (v : Value) (l : List Qry) (R : QRes) (q : Qry) (W : World) : Prop where
  lst : QList W (w.heap.size + 1) v l
  pst : RSt W b s d q R
  res : QzAt W w.heap.size
  off : Off (fun k => k = b) (w.alloc qObj) W
  ord : b < w.heap.size
theorem RLMid.size {w W : World} {b d : Nat} {s : List UInt8} {v : Value} {l : List Qry} {R : QRes} {q : Qry} (h : RLMid w b s d v l R q W) : w.heap.size < W.heap.size := heap_lt h.res
theorem RLMid.below {w W W' : World} {b d : Nat} {s : List UInt8} {v : Value} {l : List Qry} {R : QRes} {q : Qry} (h : RLMid w b s d v l R q W) (hb : Below W.heap.size W W') : RLMid w b s d v l R q W' :=
  ⟨h.lst.below hb, h.pst.off (F := fun _ => False) (Off.of_below hb (fun k h1 h2 => by omega)) (fun x => x), h.res.below hb (heap_lt h.res),
    h.off.andThen (Off.of_below (F := fun _ => False) hb (fun k h1 h2 => by omega)) (fun _ _ x => x.elim), h.ord⟩
/-- What the words of a piece of the reference's tell of its token. -/
theorem rpcV_tells {s : List UInt8} {a n : Nat} : ∃ (j k : Int) (T : ByteArray) (qd : Bool) (U : ByteArray) (z : Bool), rpcV n (peekQ s a) = .agg #[.int .i64 ((peekQ s a).src : Nat), .int .i64 j, .int .i64 k, .string T, .bool qd, .string U, .bool z]
    ∧ finB (peekQ s a).tok = (k == 0) ∧ shutB (peekQ s a).tok = (k == 2) ∧ ((k == 5) = false → isBare wOR (peekQ s a).tok = false ∧ isBare wAND (peekQ s a).tok = false)
    ∧ (k = 5 → j = ((peekQ s a).dst : Nat) ∧ ∃ t, T = ba t ∧ isBare wOR (peekQ s a).tok = decide (t = wOR) ∧ isBare wAND (peekQ s a).tok = decide (t = wAND)) := by
  obtain ⟨x, hx⟩ : ∃ x, peekQ s a = x := ⟨_, rfl⟩
  rw [hx]
  obtain ⟨i, j, tok⟩ := x
  cases tok with
  | quo t f raw =>
    cases f with
    | zero => exact ⟨_, _, _, _, _, _, rfl, rfl, rfl, fun _ => ⟨rfl, rfl⟩, fun h => by cases h⟩
    | succ f =>
      obtain ⟨h58, -, -⟩ := peek_fld hx
      have e1 : raw ≠ wOR := by rintro rfl; exact absurd h58 (by decide)
      have e2 : raw ≠ wAND := by rintro rfl; exact absurd h58 (by decide)
      exact ⟨_, _, _, _, _, _, rfl, rfl, rfl, fun h => (by cases h), fun _ => ⟨rfl, raw, rfl, by simp [isBare, e1], by simp [isBare, e2]⟩⟩
  | bare t => exact ⟨_, _, _, _, _, _, rfl, rfl, rfl, fun h => (by cases h), fun _ => ⟨rfl, t, rfl, by simp [isBare], by simp [isBare]⟩⟩
  | _ => exact ⟨_, _, _, _, _, _, rfl, rfl, rfl, fun _ => ⟨rfl, rfl⟩, fun h => by cases h⟩
/-- One more query is read: the list behind the append. -/
theorem rl_next {w wr W w3 : World} {b d a0 : Nat} {s : List UInt8} {v : Value} {l : List Qry} {q1 : Qry} {r : RawQ} {q : Qry} {R : QRes} (H : RLMid w b s d v l (.ok q1 a0) q1 wr) (hW : Off (fun k => k = b) wr W) (hq : QOwn w3 W.heap.size r q) (ho : Off (fun k => k = b) W w3) (hst : RSt w3 b s d q R) (obj : Obj) :
    ∃ raws, OwnRaws (w3.alloc obj) (w.heap.size + 1) v raws ∧ raws.length = l.length ∧ ∀ v' w5, OwnRaws w5 (w.heap.size + 1) v' (raws ++ [r]) → (w3.alloc obj).grownBy w5 v.ownBlock → (v'.ownBlock = v.ownBlock ∨ ∃ k, v'.ownBlock = some k ∧ (w3.alloc obj).heap.size ≤ k) → RLMid w b s d v' (l ++ [q]) R q w5 := by
  have ob := H.ord
  have hz := H.size
  have hF : ∀ k, (fun k => k = b) k → k < w.heap.size + 1 := fun k e => by omega
  have hLW : QList W (w.heap.size + 1) v l := H.lst.off hW hF
  have hL3 : QList w3 (w.heap.size + 1) v l := hLW.off ho hF
  have hoa : Below w3.heap.size w3 (w3.alloc obj) := (Below.refl _ _).alloc (Nat.le_refl _) _
  have hL4 := hL3.below hoa
  obtain ⟨raws, h1, h2, h3⟩ := hL4.row
  obtain ⟨raws', h1', _, _⟩ := hLW.row
  refine ⟨raws, h1, h2, fun v' w5 g1 g2 g3 => ?_⟩
  have hlt := h1.row.lt
  have hlt' := h1'.row.lt
  have hs1 := hW.size
  have hs2 := ho.size
  have hs3 := hoa.size
  have hgo : ∀ F : Nat → Prop, (∀ k, v.ownBlock = some k → F k ∨ (w3.alloc obj).heap.size ≤ k) → Off F (w3.alloc obj) w5 := fun F hF => (Off.refl F _).grown g2 hF
  have hq4 : QDeep (w3.alloc obj) (fun b => w.heap.size + 1 ≤ b ∧ v.ownBlock ≠ some b) r q := QDeep.more (QOwn.below hq hoa) fun k hk => ⟨by omega, fun e => by have := (hlt' k e).2; omega⟩
  have o5 : Off (fun k => v.ownBlock = some k) (w3.alloc obj) w5 := hgo _ fun k e => .inl e
  refine ⟨QList.push h2 h3 hq4 g1 g2 g3, ?_, ?_, ?_, ob⟩
  · have p4 : RSt (w3.alloc obj) b s d q R := hst.off (F := fun _ => False) (Off.of_below hoa (fun k h1 h2 => by omega)) (fun x => x)
    exact p4.off o5 (fun e => by have := (hlt' b e).1; omega)
  · have e1 : W.heap[w.heap.size]? = wr.heap[w.heap.size]? := hW.block _ hz (by omega)
    have e2 : w3.heap[w.heap.size]? = W.heap[w.heap.size]? := ho.block _ (by omega) (by omega)
    have e3 : (w3.alloc obj).heap[w.heap.size]? = w3.heap[w.heap.size]? := heap_alloc_old _ _ (by omega)
    have e4 : w5.heap[w.heap.size]? = (w3.alloc obj).heap[w.heap.size]? := o5.block _ (by omega) (fun e => by have := (hlt _ e).1; omega)
    exact (((e4.trans e3).trans e2).trans e1).trans H.res
  · exact ((((H.off.trans hW).trans ho).alloc obj).andThen o5 fun k hk e => by have := (hlt k e).1; simp only [World.size_alloc] at hk; omega)
/-- What a loop of the reference's holds. K: the kind that is left; RS: what comes of all. -/
structure RLRel (w : World) (b : Nat) (s : List UInt8) (d fm : Nat) (K : List Qry → QKind) (RS : QRes) (v : Value) (l : List Qry) (R : QRes) (q : Qry) (W : World) : Prop where
  mid : RLMid w b s d v l R q W
  len : l.length ≤ s.length + 1
  isOk : ∀ q0 a, R = .ok q0 a → a ≤ s.length ∧ l.length ≤ a ∧ ∃ g, g ≤ fm ∧ 3 * (s.length - a) + 2 ≤ g ∧ RS = runQ s g (K l) d a
  isErr : ∀ e a, R = .err e a → RS = .err e a
/-- What is left to read, told by the world (the loop's measure). -/
def rlLeft (b m : Nat) (W : World) : Nat :=
  match W.cell? ⟨b, 3, none⟩ with
  | some (.int .i64 0) => (match W.cell? ⟨b, 1, none⟩ with
    | some (.int .i64 a) => m - a.toNat + 1
    | _ => 0)
  | _ => 0
theorem rlLeft_ok {W : World} {b a d pl : Nat} {s : List UInt8} (h : RPsr W b s a d 0 pl) : rlLeft b s.length W = s.length - a + 1 := by
  unfold rlLeft
  rw [h.cells.2.2.2.1, h.cells.2.1]
  rfl
theorem rlLeft_err {W : World} {b a d er pl : Nat} {s : List UInt8} (h : RPsr W b s a d er pl) (he : 0 < er) : rlLeft b s.length W = 0 := by
  unfold rlLeft
  rw [h.cells.2.2.2.1]
  cases er with
  | zero => omega
  | succ n => rfl
/-- The measure falls when the next query is read. -/
theorem rl_less {wr wf : World} {b d a0 : Nat} {s : List UInt8} {q1 q : Qry} {R : QRes} (h : RSt wr b s d q1 (.ok q1 a0)) (h2 : RSt wf b s d q R) (ha : a0 ≤ s.length) (hon : ∀ q0 a, R = .ok q0 a → a0 < a ∧ a ≤ s.length) : rlLeft b s.length wf < rlLeft b s.length wr := by
  rw [rlLeft_ok h.2]
  cases R with
  | ok q0 a =>
    have := hon q0 a rfl
    rw [rlLeft_ok h2.2]
    omega
  | err e a =>
    obtain ⟨h0, d', _, _, h3⟩ := h2
    rw [rlLeft_err h3 h0]
    omega
/-- The next query is in the list: the loop may go on. -/
theorem rl_done {w w5 : World} {b d a0 fm g : Nat} {s : List UInt8} {K : List Qry → QKind} {RS R : QRes} {v' : Value} {l : List Qry} {q : Qry} (hm : RLMid w b s d v' (l ++ [q]) R q w5)
    (hl : l.length ≤ a0) (ha : a0 ≤ s.length) (hg : g + 1 ≤ fm) (hfu : 3 * (s.length - a0) + 2 ≤ g + 1) (hon : ∀ q0 a, R = .ok q0 a → a0 < a ∧ a ≤ s.length) (hRS : RS = R.then fun q b => runQ s g (K (l ++ [q])) d b) :
    RLRel w b s d fm K RS v' (l ++ [q]) R q w5 := by
  refine ⟨hm, by simp; omega, fun q0 a e => ?_, fun e a he => by rw [hRS, he]; rfl⟩
  have h1 := hon q0 a e
  have hq0 : q = q0 := by have h := hm.pst; rw [e] at h; exact h.1
  exact ⟨h1.2, by simp; omega, g, by omega, by omega, by rw [hRS, e, hq0]; rfl⟩
end Go.Proofs.YtomcdhmcjndioaaGreatDoor
end
