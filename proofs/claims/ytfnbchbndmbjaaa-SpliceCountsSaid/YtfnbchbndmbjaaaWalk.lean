/- The program's walk: it tells three functions of the kept, deleted and inserted elements, in the order of the alignment. -/
import Derived.Test.YtfnbchbndmbjaaaNewTable
import Derived.Deep.DeepCutAuto
import Derived.Deep.CutBlock
namespace Go.Proofs.Ytfnbchbndmbjaaa
open Go.RowKit
set_option linter.unusedVariables false

/-- From w to w' only blocks of F, and new ones, have turned; F' is what may turn from now on. -/
structure Turn (F F' : Nat → Prop) (w w' : World) : Prop where
  os : w'.os = w.os
  tape : w'.tape = w.tape
  output : w'.output = w.output
  size : w.heap.size ≤ w'.heap.size
  block : ∀ k, k < w.heap.size → ¬ F k → w'.heap[k]? = w.heap[k]?
  foot : ∀ k, F' k → F k ∨ w.heap.size ≤ k
theorem Turn.refl (F : Nat → Prop) (w : World) : Turn F F w w := ⟨rfl, rfl, rfl, Nat.le_refl _, fun _ _ _ => rfl, fun _ h => .inl h⟩
theorem Turn.trans {F G H : Nat → Prop} {a b c : World} (h : Turn F G a b) (k : Turn G H b c) : Turn F H a c :=
  ⟨k.os.trans h.os, k.tape.trans h.tape, k.output.trans h.output, Nat.le_trans h.size k.size, fun i hi hn =>
    (k.block i (Nat.lt_of_lt_of_le hi h.size) (fun hg => by rcases h.foot i hg with h1 | h1; exact hn h1; omega)).trans (h.block i hi hn),
    fun i hi => by
      rcases k.foot i hi with h1 | h1
      · exact h.foot i h1
      · right; have := h.size; omega⟩
theorem Turn.of_below {F : Nat → Prop} {a b : World} (h : Below a.heap.size a b) : Turn F F a b :=
  ⟨h.os, h.tape, h.output, h.size, fun i hi _ => h.block i hi, fun _ h => .inl h⟩
theorem Turn.drewN {F G : Nat → Prop} {a b : World} (h : Turn F G a b) (k : Nat) : Turn F G a (b.drewN k) := ⟨h.os, h.tape, h.output, h.size, h.block, h.foot⟩
theorem Turn.cell {F G : Nat → Prop} {a b : World} (h : Turn F G a b) {p : Addr} (hp : p.block < a.heap.size) (hn : ¬ F p.block) : b.cell? p = a.cell? p := World.cell?_of_block (w := a) (h.block _ hp hn)

def Callable (f : FuncId) : Prop := ∀ (args : Array Value) (w : World), (callFunc f args).run Try.prog w = .ok (.enter f args) w
theorem callable_of {f : FuncId} {fn : Func} (hf : Try.prog.funcs[f]? = some fn) (hn : (fn.name == "runtime.NumGoroutine") = false) (hb : fn.body.isNone = false) : Callable f := fun args w => by
  simp only [callFunc, Sem.run_bind, run_program, Result.andThen_ok, hf, hn, hb, if_false, Bool.false_eq_true, Sem.run_pure]

/-- A call of a function value with one argument. -/
theorem wpList_callv {ops : Array Oper} {rest : List Oper} {o : Oper} {a : Act} {w : World} {Q : Exit → Act → World → Prop} {R : World → Prop} {fk : FuncId} {ck : Array Value} {v : Value} (hgd : o.guard = none) (f x : Operand) (t : TypeId)
    (ho : o.op = .call { callee := .value f, args := #[x], argTypes := #[t] }) (hf : a.eval f = .func (.func fk) #[] ck) (hx : a.eval x = v) (hcall : Callable fk)
    (h : Calls Try.prog fk (#[v] ++ ck) w fun e w' => (∃ r, e = .returned r) ∧ R w') (hK : ∀ r w', R w' → wpList Try.prog ops Q rest (a.put o.dst r) w') : wpList Try.prog ops Q (o :: rest) a w := by
  refine wpList_plain hgd fun next hnext => ?_
  have hr : (execOp a.eval o).run Try.prog w = .ok (.enter fk (#[v] ++ ck)) w := by
    unfold execOp
    simp only [ho, resolve, hf, Deferred.ofValue, invoke, Sem.run_bind, Sem.run_pure, Result.andThen_ok, List.map_toArray, List.map_cons, List.map_nil, hx]
    simpa using hcall (#[v] ++ ck) w
  unfold Oper.wp
  rw [hr, Oper.upon_enter]
  refine h.mono ?_
  rintro e w' ⟨⟨r, rfl⟩, hR⟩
  exact hnext _ _ (hK r w' hR)

/-- Three functions that take the events in; I tells what they have made of the events so far, F which blocks are theirs. -/
structure Sinks (L : Nat) (fk fd fi : FuncId) (ck cd ci : Array Value) (I : List Ev → (Nat → Prop) → World → Prop) : Prop where
  keep : ∀ evs F w n, evs.length < L → I evs F w → (-9223372036854775808 ≤ n ∧ n ≤ 9223372036854775807) → Calls Try.prog fk (#[.int .i64 n] ++ ck) w fun e w' => (∃ v, e = .returned v) ∧ ∃ F', I (evs ++ [.keep n]) F' w' ∧ Turn F F' w w'
  del : ∀ evs F w n, evs.length < L → I evs F w → (-9223372036854775808 ≤ n ∧ n ≤ 9223372036854775807) → Calls Try.prog fd (#[.int .i64 n] ++ cd) w fun e w' => (∃ v, e = .returned v) ∧ ∃ F', I (evs ++ [.del n]) F' w' ∧ Turn F F' w w'
  ins : ∀ evs F w n, evs.length < L → I evs F w → (-9223372036854775808 ≤ n ∧ n ≤ 9223372036854775807) → Calls Try.prog fi (#[.int .i64 n] ++ ci) w fun e w' => (∃ v, e = .returned v) ∧ ∃ F', I (evs ++ [.ins n]) F' w' ∧ Turn F F' w w'
  kc : Callable fk
  dc : Callable fd
  ic : Callable fi
  stays : ∀ evs F w w', I evs F w → Below w.heap.size w w' → I evs F w'
  within : ∀ evs F w, I evs F w → ∀ k, F k → k < w.heap.size

theorem cut_ints {A : Option Addr} {n c h : Nat} (hn : h ≤ n) (W : World) : (Instr.slice 22 (.slice A n c) (some (.int .i64 (h : Int))) none none).run Try.prog W =
    .ok (.slice (if c = h then A else A.map (·.add h)) (n - h) (c - h)) W := by
  obtain ⟨i0, hi, hz0, hz1, hz2⟩ := info_parts int_info
  rw [run_slice_l (P := Try.prog) W 22 A n c Try.underlying22 .i64 (h : Int) (by omega) (by omega)]
  have hs : (sizeOf (Try.prog.elem 22)).run Try.prog W = .ok 1 W := by
    rw [show Try.prog.elem 22 = 3 from rfl]
    simp [sizeOf, typeInfo, hi, hz1]
  rw [hs]
  simp [Result.andThen, sliced]
theorem Ints.cut {w : World} {B n c h : Nat} {A : Option Addr} {l : List Int} (hi : Ints w B A n l) (hc : n ≤ c) : Ints w B (if c = h then A else A.map (·.add h)) (n - h) (l.drop h) := by
  obtain ⟨rfl, hb, hr⟩ := hi
  refine ⟨by simp, fun x hx => hb x (List.mem_of_mem_drop hx), ?_⟩
  have := hr.cut (k := h) (cap := c) (by rw [iv_len]; exact hc)
  simpa [iv, List.map_drop] using this
theorem Ints.turn {w w' : World} {B n : Nat} {A : Option Addr} {l : List Int} {F G : Nat → Prop} (h : Ints w B A n l) (ht : Turn F G w w') (hB : B ≤ w.heap.size) (hF : ∀ k, F k → B ≤ k) : Ints w' B A n l :=
  ⟨h.1, h.2.1, h.2.2.keep fun p hp => ht.cell (by omega) (fun hf => by have := hF _ hf; omega)⟩

theorem T16.turn {w w' : World} {S n m o : Nat} {f : Nat → Nat → Nat} {F G : Nat → Prop} (h : T16 w S n m o f) (ht : Turn F G w w') (hS : S + 1 < w.heap.size) (hF : ∀ k, F k → k < S) : T16 w' S n m o f :=
  ⟨fun r hr => (ht.cell (p := ⟨S, r, none⟩) (by simp; omega) (fun hf => by have := hF _ hf; simp at this)).trans (h.1 r hr), fun r c hr hc =>
    ⟨(ht.cell (p := ⟨S + 1, r * (m + 1) + c, none⟩) (by simpa using hS) (fun hf => by have : S + 1 < S := hF _ hf; omega)).trans (h.2 r c hr hc).1,
     (World.frozen?_of_block (w := w) (ht.block _ (by simpa using hS) (fun hf => by have : S + 1 < S := hF _ hf; omega))).trans (h.2 r c hr hc).2⟩⟩

/-- What holds before a round: from w on only what F names has turned; what is still to come is the alignment of the rests. -/
structure MidAt (I : List Ev → (Nat → Prop) → World → Prop) (F0 : Nat → Prop) (evs : List Ev) (w wr : World) (a b : List Int) (r c : Nat) (F : Nat → Prop) : Prop where
  turn : Turn F0 F w wr
  inv : ∃ done, I (evs ++ done) F wr ∧ align a b = done ++ align (a.drop r) (b.drop c)
theorem MidAt.more {I : List Ev → (Nat → Prop) → World → Prop} {F0 : Nat → Prop} {evs : List Ev} {w wr w2 : World} {a b : List Int} {r c r' c' : Nat} {F F2 : Nat → Prop} (x : Ev) {done : List Ev}
    (ht : Turn F0 F w wr) (hal : align a b = done ++ align (a.drop r) (b.drop c)) (hx : align (a.drop r) (b.drop c) = x :: align (a.drop r') (b.drop c')) (hI : I ((evs ++ done) ++ [x]) F2 w2) (hT : Turn F F2 wr w2) :
    MidAt I F0 evs w w2 a b r' c' F2 :=
  ⟨ht.trans hT, done ++ [x], by rw [← List.append_assoc]; exact hI, by rw [hal, hx]; simp⟩

theorem lt_of_al {L : Nat} {evs done rest : List Ev} {x : Ev} {a b : List Int} {r c : Nat} (hal : align a b = done ++ align (a.drop r) (b.drop c)) (hx : align (a.drop r) (b.drop c) = x :: rest) (hL : evs.length + (align a b).length ≤ L) :
    (evs ++ done).length < L := by
  rw [hal, hx] at hL
  simp only [List.length_append, List.length_cons] at hL ⊢
  omega

set_option maxRecDepth 100000 in
set_option maxHeartbeats 2000000 in
theorem walk_any {L : Nat} {fk fd fi : FuncId} {ck cd ci : Array Value} {I : List Ev → (Nat → Prop) → World → Prop} (hs : Sinks L fk fd fi ck cd ci I) (evs : List Ev) (a b : List Int) (hL : evs.length + (align a b).length ≤ L) (F0 : Nat → Prop) (BB : Nat)
    (A B : Option Addr) (n m c d : Nat) (w : World) (ha : Ints w BB A n a) (hb : Ints w BB B m b) (hn : n ≤ 1024) (hm : m ≤ 1024) (hnc : n ≤ c) (hmd : m ≤ d) (hc63 : c ≤ maxLen) (hd63 : d ≤ maxLen)
    (hBB : BB ≤ w.heap.size) (hF0 : ∀ k, F0 k → BB ≤ k) (hI : I evs F0 w) :
    Calls Try.prog 21 #[.slice A n c, .slice B m d, .func (.func fk) #[] ck, .func (.func fd) #[] cd, .func (.func fi) #[] ci] w fun e w' => (∃ v, e = .returned v) ∧ ∃ F', I (evs ++ align a b) F' w' ∧ Turn F0 F' w w' := by
  unfold maxLen at hc63 hd63
  have HN := Lib.hid ha.len
  have HM := Lib.hid hb.len
  have HS := Lib.hid hs; clear hs
  have HI := Lib.hid hI; clear hI
  have HLL := Lib.hid hL; clear hL
  go_enter Try.func21, Try.ntmps21
  go_upto_block 0 with (fail)
  go_cut [10] (fun i wx => ∃ (h : Nat) (F : Nat → Prop), h ≤ n ∧ h ≤ m ∧ i = .int .i64 h ∧ MidAt I F0 evs w wx a b h h F)
  case first =>
    go_wp2_with fail
    go_loopw [10] (fun i wr => ∃ (h : Nat) (F : Nat → Prop), h ≤ n ∧ h ≤ m ∧ i = .int .i64 h ∧ MidAt I F0 evs w wr a b h h F) (fun i _ => n - (intOf i).toNat)
    case atStart => exact ⟨0, F0, Nat.zero_le _, Nat.zero_le _, rfl, Turn.refl _ _, [], by simpa using HI.out, by simp⟩
    case round =>
      obtain ⟨h, F, hhn, hhm, rfl, hat⟩ := hrel
      have HA := Lib.hid hat; clear hat
      have ha1 := ha.turn HA.out.turn hBB hF0
      have hb1 := hb.turn HA.out.turn hBB hF0
      by_cases hrn : h < n
      · obtain ⟨ad, rfl, hba, hca⟩ := ha1.at_ hrn
        by_cases hqm : h < m
        · obtain ⟨bd, rfl, hbb, hcb⟩ := hb1.at_ hqm
          by_cases he : gi a h = gi b h
          · have hx := Lib.hid (align_keep (a := a) (b := b) (by rw [HN.out]; exact hrn) (by rw [HM.out]; exact hqm) he)
            have hne : (gi a h == gi b h) = true := by simpa using he
            clear he
            go_wp2
            go_quiet (fail)
            obtain ⟨done, hI1, hal⟩ := HA.out.inv
            have HC := Lib.hid (HS.out.keep _ _ (wr.drewN nq) _ (lt_of_al hal hx.out HLL.out) (HS.out.stays _ _ _ _ hI1 (drewBelow (Below.refl _ _) nq)) (ha.bounds h))
            have HAL := Lib.hid hal
            clear hI1 hal
            go_wp2_with (refine wpList_callv (fk := fk) (ck := ck) (v := .int .i64 (gi a h)) rfl (.tmp 41) (.tmp 45) 3 rfl rfl rfl HS.out.kc HC.out ?_; rintro r w2 ⟨F2, hI2, hT2⟩; have HI2 := Lib.hid (And.intro hI2 hT2); clear hI2 hT2)
            go_roundw
            case rel => exact ⟨h + 1, F2, by omega, by omega, by go_num, MidAt.more _ (HA.out.turn.drewN nq) HAL.out hx.out HI2.out.1 HI2.out.2⟩
            case measure => simp [intOf] <;> omega
          · have hne : (gi a h == gi b h) = false := by simpa using he
            clear he
            go_wp2
            go_quiet (fail)
            go_wp2_with fail
            go_meet
            exact ⟨h, F, hhn, hhm, rfl, HA.out.turn.drewN nq, by
              obtain ⟨done, hI1, hal⟩ := HA.out.inv
              exact ⟨done, HS.out.stays _ _ _ _ hI1 (drewBelow (Below.refl _ _) nq), hal⟩⟩
        · obtain rfl : h = m := by omega
          have hd0 : decide (h < h) = false := by simp
          go_wp2
          go_quiet (fail)
          go_wp2_with fail
          go_meet
          exact ⟨h, F, hhn, hhm, rfl, HA.out.turn.drewN nq, by
            obtain ⟨done, hI1, hal⟩ := HA.out.inv
            exact ⟨done, HS.out.stays _ _ _ _ hI1 (drewBelow (Below.refl _ _) nq), hal⟩⟩
      · obtain rfl : h = n := by omega
        have hd0 : decide (h < h) = false := by simp
        go_wp2
        go_quiet (fail)
        go_wp2_with fail
        go_meet
        exact ⟨h, F, hhn, hhm, rfl, HA.out.turn.drewN nq, by
          obtain ⟨done, hI1, hal⟩ := HA.out.inv
          exact ⟨done, HS.out.stays _ _ _ _ hI1 (drewBelow (Below.refl _ _) nq), hal⟩⟩
  case rest =>
    obtain ⟨h, F, hhn, hhm, rfl, hat⟩ := hcut
    have ha1 := (ha.turn hat.turn hBB hF0).cut (h := h) hnc
    have hb1 := (hb.turn hat.turn hBB hF0).cut (h := h) hmd
    have hsa := fun W => cut_ints (A := A) (c := c) hhn W
    have hsb := fun W => cut_ints (A := B) (c := d) hhm W
    obtain ⟨A', hA'⟩ : ∃ A', (if c = h then A else A.map (·.add h)) = A' := ⟨_, rfl⟩
    obtain ⟨B', hB'⟩ : ∃ B', (if d = h then B else B.map (·.add h)) = B' := ⟨_, rfl⟩
    obtain ⟨n1, hn1⟩ : ∃ x, n - h = x := ⟨_, rfl⟩
    obtain ⟨m1, hm1⟩ : ∃ x, m - h = x := ⟨_, rfl⟩
    obtain ⟨c1, hc1⟩ : ∃ x, c - h = x := ⟨_, rfl⟩
    obtain ⟨d1, hd1⟩ : ∃ x, d - h = x := ⟨_, rfl⟩
    obtain ⟨a1, ha1e⟩ : ∃ x, a.drop h = x := ⟨_, rfl⟩
    obtain ⟨b1, hb1e⟩ : ∃ x, b.drop h = x := ⟨_, rfl⟩
    have hn1' : n1 ≤ 1024 := by omega
    have hm1' : m1 ≤ 1024 := by omega
    have hnc1 : n1 ≤ c1 := by omega
    have hmd1 : m1 ≤ d1 := by omega
    have hc1' : c1 ≤ 2 ^ 63 - 1 := by omega
    have hd1' : d1 ≤ 2 ^ 63 - 1 := by omega
    rw [hA', hn1, ha1e] at ha1
    rw [hB', hm1, hb1e] at hb1
    simp only [hA', hn1, hc1] at hsa
    simp only [hB', hm1, hd1] at hsb
    obtain ⟨hturn, done0, hI0, hal0⟩ := hat
    rw [ha1e, hb1e] at hal0
    obtain ⟨E, hE⟩ : ∃ E, evs ++ done0 = E := ⟨_, rfl⟩
    have HL2 := Lib.hid (show E.length + (align a1 b1).length ≤ L by have := HLL.out; rw [hal0] at this; rw [← hE]; simp only [List.length_append] at this ⊢; omega)
    have HAL0 := Lib.hid (show evs ++ align a b = E ++ align a1 b1 by rw [hal0, ← hE, List.append_assoc])
    rw [hE] at hI0
    have HT0 := Lib.hid hturn
    have HI0 := Lib.hid hI0
    have hBc : BB ≤ wc.heap.size := by have := hturn.size; omega
    have HF1 : Hid (∀ k, F k → BB ≤ k ∧ k < wc.heap.size) := fun k hk => ⟨by
      rcases hturn.foot k hk with h1 | h1
      · exact hF0 k h1
      · omega, HS.out.within _ _ _ hI0 k hk⟩
    clear hA' hB' hn1 hm1 hc1 hd1 ha1e hb1e hturn hI0 hal0 hE HI HN HM ha hb
    go_wp2
    go_quiet (fail)
    go_wp2_with fail
    refine (newTable_any A' B' n1 m1 c1 d1 a1 b1 (wc.drewN nq) (ha1.more hBc) (hb1.more hBc) hn1' hm1').mono ?_
    rintro e w1 ⟨rfl, hsz, hT, hb2⟩
    replace hsz : wc.heap.size + 1 < w1.heap.size := hsz
    have HT := Lib.hid hT
    have HI1 := Lib.hid (HS.out.stays _ _ (wc.drewN nq) w1 (HS.out.stays _ _ _ _ HI0.out (drewBelow (Below.refl _ _) nq)) hb2)
    have HT1 := Lib.hid ((HT0.out.drewN nq).trans (Turn.of_below hb2))
    have ha2 : Ints w1 BB A' n1 a1 := (ha1.drewN nq).below (hb2.mono hBc)
    have hb3 : Ints w1 BB B' m1 b1 := (hb1.drewN nq).below (hb2.mono hBc)
    have HB1 : Hid (BB ≤ w1.heap.size) := by show BB ≤ w1.heap.size; omega
    have HN := Lib.hid ha2.len
    have HM := Lib.hid hb3.len
    clear hT hb2 hsa hsb ha1 hb1 hhn hhm
    go_upto_block 2 with (fail)
    go_cut [14, 15] (fun i j wx => ∃ (r q : Nat) (G : Nat → Prop), r ≤ n1 ∧ q ≤ m1 ∧ (r < n1 → q = m1) ∧ i = .int .i64 r ∧ j = .int .i64 q ∧ MidAt I F E w1 wx a1 b1 r q G)
    case first =>
      go_wp2_with fail
      go_loopw [14, 15, 76, 96] (fun i j _ _ wr => ∃ (r q : Nat) (G : Nat → Prop), r ≤ n1 ∧ q ≤ m1 ∧ i = .int .i64 r ∧ j = .int .i64 q ∧ MidAt I F E w1 wr a1 b1 r q G) (fun i j _ _ _ => n1 + m1 - (intOf i).toNat - (intOf j).toNat)
      case atStart => exact ⟨0, 0, F, Nat.zero_le _, Nat.zero_le _, rfl, rfl, Turn.refl _ _, [], by simpa using HI1.out, by simp⟩
      case round =>
        obtain ⟨r, q, G, hr, hq, rfl, rfl, hat⟩ := hrel
        have HA := Lib.hid hat; clear hat
        have ha4 := ha2.turn HA.out.turn HB1.out (fun k hk => (HF1.out k hk).1)
        have hb4 := hb3.turn HA.out.turn HB1.out (fun k hk => (HF1.out k hk).1)
        have hT4 := Lib.hid (HT.out.turn HA.out.turn hsz (fun k hk => (HF1.out k hk).2))
        by_cases hrn : r < n1
        · by_cases hqm : q < m1
          · obtain ⟨ad, rfl, hba, hca⟩ := ha4.at_ hrn
            obtain ⟨bd, rfl, hbb, hcb⟩ := hb4.at_ hqm
            obtain ⟨done, hI1, hal⟩ := HA.out.inv
            have HAL := Lib.hid hal
            have HI2 := Lib.hid hI1
            clear hI1 hal
            by_cases he : gi a1 r = gi b1 q
            · have hx := Lib.hid (align_keep (a := a1) (b := b1) (by rw [HN.out]; exact hrn) (by rw [HM.out]; exact hqm) he)
              have hne : (gi a1 r == gi b1 q) = true := by simpa using he
              clear he
              have HC := Lib.hid (fun k => HS.out.keep _ _ (wr.drewN k) _ (lt_of_al HAL.out hx.out HL2.out) (HS.out.stays _ _ _ _ HI2.out (drewBelow (Below.refl _ _) k)) (ha2.bounds r))
              go_wp2
              go_quiet (fail)
              go_wp2_with (refine wpList_callv (fk := fk) (ck := ck) (v := .int .i64 (gi a1 r)) rfl (.tmp 86) (.tmp 90) 3 rfl rfl rfl HS.out.kc (HC.out _) ?_; rintro rv w2 ⟨F2, hI2, hT2⟩; have HI3 := Lib.hid (And.intro hI2 hT2); clear hI2 hT2)
              go_roundw
              case rel => exact ⟨r + 1, q + 1, F2, by omega, by omega, by go_num, by go_num, MidAt.more _ (HA.out.turn.drewN _) HAL.out hx.out HI3.out.1 HI3.out.2⟩
              case measure => simp [intOf] <;> omega
            · have hne : (gi a1 r == gi b1 q) = false := by simpa using he
              have HE := Lib.hid he; clear he
              obtain ⟨R0, hR0⟩ : ∃ R, r * (m1 + 1) = R := ⟨_, rfl⟩
              obtain ⟨R1, hR1⟩ : ∃ R, (r + 1) * (m1 + 1) = R := ⟨_, rfl⟩
              have h0 := hT4.out.1 r (by omega)
              have h1 := hT4.out.1 (r + 1) (by omega)
              obtain ⟨h2, _⟩ := hT4.out.2 (r + 1) q (by omega) (by omega)
              obtain ⟨h3, _⟩ := hT4.out.2 r (q + 1) (by omega) (by omega)
              rw [hR0] at h0 h3
              rw [hR1] at h1 h2
              clear hR0 hR1
              replace h0 : wr.cell? ⟨wc.heap.size, r, none⟩ = _ := h0
              replace h1 : wr.cell? ⟨wc.heap.size, r + 1, none⟩ = _ := h1
              replace h2 : wr.cell? ⟨wc.heap.size + 1, R1 + q, none⟩ = _ := h2
              replace h3 : wr.cell? ⟨wc.heap.size + 1, R0 + (q + 1), none⟩ = _ := h3
              obtain ⟨x1, hx1⟩ : ∃ x, x = tab a1 b1 (r + 1) q := ⟨_, rfl⟩
              obtain ⟨x2, hx2⟩ : ∃ x, x = tab a1 b1 r (q + 1) := ⟨_, rfl⟩
              rw [← hx1] at h2
              rw [← hx2] at h3
              have HX := Lib.hid (And.intro hx1 hx2)
              clear hx1 hx2
              have HCd := Lib.hid (fun (hl : (E ++ done).length < L) k => HS.out.del _ _ (wr.drewN k) _ hl (HS.out.stays _ _ _ _ HI2.out (drewBelow (Below.refl _ _) k)) (ha2.bounds r))
              have HCi := Lib.hid (fun (hl : (E ++ done).length < L) k => HS.out.ins _ _ (wr.drewN k) _ hl (HS.out.stays _ _ _ _ HI2.out (drewBelow (Below.refl _ _) k)) (hb3.bounds q))
              by_cases hle : x2 ≤ x1
              · have hx := Lib.hid (align_del (a := a1) (b := b1) (by rw [HN.out]; exact hrn) (by rw [HM.out]; exact hqm) HE.out (by rw [← HX.out.1, ← HX.out.2]; exact hle))
                go_wp2
                go_quiet (fail)
                go_wp2
                have bb1 : (r : Int) < (n1 : Int) + 1 := by omega
                have b2 : (r : Int) + 1 < (n1 : Int) + 1 := by omega
                have b3 : (q : Int) < (m1 : Int) + 1 := by omega
                have b4 : (q : Int) + 1 < (m1 : Int) + 1 := by omega
                have b5 : (r : Int) < 1025 := by omega
                have b6 : (r : Int) + 1 < 1025 := by omega
                have z1 : 0 ≤ (r : Int) + 1 := by omega
                have z2 : 0 ≤ (q : Int) + 1 := by omega
                have t1 : ((r : Int) + 1).toNat = r + 1 := by omega
                have t2 : ((q : Int) + 1).toNat = q + 1 := by omega
                have y1 : IntKind.i64.wrap ((r : Int) + 1) = r + 1 := IntWalk.i64_in _ (by omega)
                have y2 : IntKind.i64.wrap ((q : Int) + 1) = q + 1 := IntWalk.i64_in _ (by omega)
                go_quiet (fail)
                clear y1 y2 z1 z2 t1 t2 bb1 b2 b3 b4 b5 b6
                go_wp2_with (refine wpList_callv (fk := fd) (ck := cd) (v := .int .i64 (gi a1 r)) rfl (.tmp 118) (.tmp 122) 3 rfl rfl rfl HS.out.dc (HCd.out (lt_of_al HAL.out hx.out HL2.out) _) ?_; rintro rv w2 ⟨F2, hI2, hT2⟩; have HI3 := Lib.hid (And.intro hI2 hT2); clear hI2 hT2)
                go_roundw
                case rel => exact ⟨r + 1, q, F2, by omega, by omega, by go_num, rfl, MidAt.more _ (HA.out.turn.drewN _) HAL.out hx.out HI3.out.1 HI3.out.2⟩
                case measure => simp [intOf] <;> omega
              · have hx := Lib.hid (align_ins (a := a1) (b := b1) (by rw [HN.out]; exact hrn) (by rw [HM.out]; exact hqm) HE.out (by rw [← HX.out.1, ← HX.out.2]; exact hle))
                go_wp2
                go_quiet (fail)
                go_wp2
                have bb1 : (r : Int) < (n1 : Int) + 1 := by omega
                have b2 : (r : Int) + 1 < (n1 : Int) + 1 := by omega
                have b3 : (q : Int) < (m1 : Int) + 1 := by omega
                have b4 : (q : Int) + 1 < (m1 : Int) + 1 := by omega
                have b5 : (r : Int) < 1025 := by omega
                have b6 : (r : Int) + 1 < 1025 := by omega
                have z1 : 0 ≤ (r : Int) + 1 := by omega
                have z2 : 0 ≤ (q : Int) + 1 := by omega
                have t1 : ((r : Int) + 1).toNat = r + 1 := by omega
                have t2 : ((q : Int) + 1).toNat = q + 1 := by omega
                have y1 : IntKind.i64.wrap ((r : Int) + 1) = r + 1 := IntWalk.i64_in _ (by omega)
                have y2 : IntKind.i64.wrap ((q : Int) + 1) = q + 1 := IntWalk.i64_in _ (by omega)
                go_quiet (fail)
                clear y1 y2 z1 z2 t1 t2 bb1 b2 b3 b4 b5 b6
                go_wp2_with (refine wpList_callv (fk := fi) (ck := ci) (v := .int .i64 (gi b1 q)) rfl (.tmp 68) (.tmp 72) 3 rfl rfl rfl HS.out.ic (HCi.out (lt_of_al HAL.out hx.out HL2.out) _) ?_; rintro rv w2 ⟨F2, hI2, hT2⟩; have HI3 := Lib.hid (And.intro hI2 hT2); clear hI2 hT2)
                go_roundw
                case rel => exact ⟨r, q + 1, F2, by omega, by omega, rfl, by go_num, MidAt.more _ (HA.out.turn.drewN _) HAL.out hx.out HI3.out.1 HI3.out.2⟩
                case measure => simp [intOf] <;> omega
          · obtain rfl : q = m1 := by omega
            have hd0 : decide (q < q) = false := by simp
            go_wp2_with fail
            go_meet
            exact ⟨r, q, G, hr, hq, fun _ => rfl, rfl, rfl, HA.out⟩
        · obtain rfl : r = n1 := by omega
          have hd0 : decide (r < r) = false := by simp
          go_wp2_with fail
          go_meet
          exact ⟨r, q, G, hr, hq, fun h => absurd h hrn, rfl, rfl, HA.out⟩
    case rest =>
      obtain ⟨r, q, G, hr, hq, hex, rfl, rfl, hat⟩ := hcut
      have HA := Lib.hid hat; clear hat
      have HEX := Lib.hid hex; clear hex
      have hsa := fun W => cut_ints (A := A') (c := c1) hr W
      have hsb := fun W => cut_ints (A := B') (c := d1) hq W
      have ha5 := ha2.cut (h := r) hnc1
      have hb5 := hb3.cut (h := q) hmd1
      obtain ⟨A5, hA5⟩ : ∃ A5, (if c1 = r then A' else A'.map (·.add r)) = A5 := ⟨_, rfl⟩
      obtain ⟨B5, hB5⟩ : ∃ B5, (if d1 = q then B' else B'.map (·.add q)) = B5 := ⟨_, rfl⟩
      rw [hA5] at ha5
      rw [hB5] at hb5
      simp only [hA5] at hsa
      simp only [hB5] at hsb
      clear hA5 hB5
      go_wp2
      go_loopw [17, 130] (fun _ i wr => ∃ (t : Nat) (G : Nat → Prop), t ≤ n1 - r ∧ i = .int .i64 t ∧ MidAt I F E w1 wr a1 b1 (r + t) q G) (fun _ i _ => n1 - r - (intOf i).toNat)
      case atStart => exact ⟨0, G, Nat.zero_le _, rfl, HA.out⟩
      case round =>
        clear HA
        obtain ⟨t, G, ht, rfl, hat⟩ := hrel
        have HA := Lib.hid hat; clear hat
        by_cases hlt : t < n1 - r
        · have hx := Lib.hid (align_del_end (a := a1) (b := b1) (r := r + t) (c := q) (by rw [HN.out]; omega) (by rw [HM.out, HEX.out (by omega)]; exact Nat.le_refl _))
          have hgd : gi (a1.drop r) t = gi a1 (r + t) := by simp [gi, List.getElem?_drop]
          obtain ⟨ad, rfl, hba, hca⟩ := (ha5.turn HA.out.turn HB1.out (fun k hk => (HF1.out k hk).1)).at_ hlt
          rw [hgd] at hca
          clear hgd
          obtain ⟨done, hI1, hal⟩ := HA.out.inv
          have HAL := Lib.hid hal
          have HC := Lib.hid (HS.out.del _ _ wr _ (lt_of_al hal hx.out HL2.out) hI1 (ha2.bounds (r + t)))
          clear hI1 hal
          have HL := Lib.hid hlt
          go_wp2_with (refine wpList_callv (fk := fd) (ck := cd) (v := .int .i64 (gi a1 (r + t))) rfl (.tmp 134) (.tmp 135) 3 rfl rfl rfl HS.out.dc HC.out ?_; rintro rv w2 ⟨F2, hI2, hT2⟩; have HI3 := Lib.hid (And.intro hI2 hT2); clear hI2 hT2)
          go_roundw
          case rel => exact ⟨t + 1, F2, by omega, by go_num, MidAt.more _ HA.out.turn HAL.out hx.out HI3.out.1 HI3.out.2⟩
          case measure => simp [intOf] <;> omega
        · obtain rfl : t = n1 - r := by omega
          have HA2 : Hid (MidAt I F E w1 wr a1 b1 n1 q G) := by have := HA.out; rwa [show r + (n1 - r) = n1 from by omega] at this
          clear HA
          go_wp2
          go_loopw [19, 142] (fun _ i wq => ∃ (t : Nat) (G : Nat → Prop), t ≤ m1 - q ∧ i = .int .i64 t ∧ MidAt I F E w1 wq a1 b1 n1 (q + t) G) (fun _ i _ => m1 - q - (intOf i).toNat)
          case atStart => exact ⟨0, G, Nat.zero_le _, rfl, HA2.out⟩
          case round =>
            clear HA2
            obtain ⟨t, G, ht, rfl, hat⟩ := hrel
            have HA := Lib.hid hat; clear hat
            by_cases hlt : t < m1 - q
            · have hx := Lib.hid (align_ins_end (a := a1) (b := b1) (r := n1) (c := q + t) (by rw [HN.out]; exact Nat.le_refl _) (by rw [HM.out]; omega))
              have hgd : gi (b1.drop q) t = gi b1 (q + t) := by simp [gi, List.getElem?_drop]
              obtain ⟨bd, rfl, hba, hca⟩ := (hb5.turn HA.out.turn HB1.out (fun k hk => (HF1.out k hk).1)).at_ hlt
              rw [hgd] at hca
              clear hgd
              obtain ⟨done, hI1, hal⟩ := HA.out.inv
              have HAL := Lib.hid hal
              have HC := Lib.hid (HS.out.ins _ _ wr _ (lt_of_al hal hx.out HL2.out) hI1 (hb3.bounds (q + t)))
              clear hI1 hal
              go_wp2_with (refine wpList_callv (fk := fi) (ck := ci) (v := .int .i64 (gi b1 (q + t))) rfl (.tmp 146) (.tmp 147) 3 rfl rfl rfl HS.out.ic HC.out ?_; rintro rv w2 ⟨F2, hI2, hT2⟩; have HI3 := Lib.hid (And.intro hI2 hT2); clear hI2 hT2)
              go_roundw
              case rel => exact ⟨t + 1, F2, by omega, by go_num, MidAt.more _ HA.out.turn HAL.out hx.out HI3.out.1 HI3.out.2⟩
              case measure => simp [intOf] <;> omega
            · obtain rfl : t = m1 - q := by omega
              obtain ⟨done, hI1, hal⟩ := HA.out.inv
              have HF := Lib.hid (show I (evs ++ align a b) G wr by
                rw [HAL0.out, hal, align_done (by rw [HN.out]; exact Nat.le_refl _) (by rw [HM.out]; omega), List.append_nil]; exact hI1)
              clear hI1 hal
              go_wp2
              go_end0
              exact ⟨⟨_, rfl⟩, G, HF.out, HT1.out.trans HA.out.turn⟩
end Go.Proofs.Ytfnbchbndmbjaaa
