/- The reference's Diff. -/
import Derived.Test.YtfnbchbndmbjaaaDiffAll
import Derived.Deep.RegionLaw
namespace Go.Proofs.Ytfnbchbndmbjaaa
open Go.RowKit
set_option linter.unusedVariables false

theorem opened_snoc (done : List Ev) (y : Ev) : (Dst.zero.run (done ++ [y])).opened = (match y with | .keep _ => false | _ => true) := by
  rw [Dst.run_snoc]; cases y <;> rfl
theorem code_zero {y : Ev} : code y = 0 ↔ (match y with | .keep _ => false | _ => true) = false := by cases y <;> simp [code]

/-- What Diff holds before a round. -/
def RDiffAt (w1 wr : World) (n m : Nat) (a b : List Int) (o j k : Value) : Prop :=
  ∃ (r q kk : Nat) (done : List Ev) (ps : List (Spl × Value)), j = .int .i64 q ∧ k = .int .i64 kk ∧ Hid (kk = done.length) ∧ r ≤ n ∧ q ≤ m ∧ Hid ((Dst.zero.run done).at_ = q) ∧ Hid (align a b = done ++ align (a.drop r) (b.drop q)) ∧
    Hid (ps.map (·.1) = (Dst.zero.run done).out) ∧ OwnPs wr w1.heap.size o ps ∧ Below w1.heap.size w1 wr

/-- append of one integer, as one step of a region that draws. -/
theorem step_push {ops : Array Oper} {o : Oper} {a : Act} {W : World} {K : Act → World → Prop} {Q : Exit → Act → World → Prop} {E : Prop} {B : Nat} {y : Int} {v : Value} {acc : List Int} (hown : OwnInts W B v acc) (hB : B ≤ W.heap.size)
    (hy : -9223372036854775808 ≤ y ∧ y ≤ 9223372036854775807) (hlen : acc.length < 1099511627776) (hgd : o.guard = none) (s x : Operand) (t : TypeId) (c : Nat)
    (ho : o.op = .call { callee := .builtin .append, args := #[s, x], argTypes := #[t, t] }) (ht : Try.prog.underlying t = some (.slice 3))
    (hs : a.eval s = v) (hx : a.eval x = .slice (some ⟨W.heap.size, 0, none⟩) 1 c)
    (h : ∀ v' w', OwnInts w' B v' (acc ++ [y]) → W.grownBy w' v.ownBlock → (v'.ownBlock = v.ownBlock ∨ ∃ k, v'.ownBlock = some k ∧ W.heap.size ≤ k) → K (a.put o.dst v') w') :
    if Region.wanted o (yielded ops a.tmps) = true then Oper.wp Try.prog o a (W.alloc (.cells #[.int .i64 y] 3)) K Q else E := by
  have hw : Region.wanted o (yielded ops a.tmps) = true := by simp [Region.wanted, hgd]
  rw [if_pos hw]
  have hr : Ints (W.alloc (.cells #[.int .i64 y] 3)) (W.heap.size + 1) (some ⟨W.heap.size, 0, none⟩) 1 [y] := ⟨rfl, (fun z hz => by rw [List.mem_singleton] at hz; subst hz; exact hy), .inr ⟨_, rfl, by simp, cell_one_new _ _ _⟩⟩
  refine wp_join (hown.alloc _) (by simp; omega) hr (by omega) s x t c ho ht hs hx fun v' w' h1 h2 h4 => h v' w' h1 ?_ ?_
  · have h5 := World.grownBy_alloc W (.cells #[.int .i64 y] 3) v.ownBlock
    exact ⟨h2.os.trans h5.os, h2.tape.trans h5.tape, h2.output.trans h5.output, Nat.le_trans h5.size h2.size, fun k hk hne => (h2.block k (by simp; omega) hne).trans (h5.block k hk hne)⟩
  · rcases h4 with h4 | ⟨k, h4, hk⟩
    · exact .inl h4
    · exact .inr ⟨k, h4, by simp at hk; omega⟩

theorem step_push_drew {ops : Array Oper} {o : Oper} {a : Act} {W : World} {K : Act → World → Prop} {Q : Exit → Act → World → Prop} {E : Prop} {B : Nat} {y : Int} {v : Value} {acc : List Int} (hown : OwnInts W B v acc) (hB : B ≤ W.heap.size)
    (hy : -9223372036854775808 ≤ y ∧ y ≤ 9223372036854775807) (hlen : acc.length < 1099511627776) (hgd : o.guard = none) (s x : Operand) (t : TypeId) (c : Nat)
    (ho : o.op = .call { callee := .builtin .append, args := #[s, x], argTypes := #[t, t] }) (ht : Try.prog.underlying t = some (.slice 3))
    (hs : a.eval s = v) (hx : a.eval x = .slice (some ⟨W.heap.size, 0, none⟩) 1 c)
    (h : ∀ v' w', OwnInts w' B v' (acc ++ [y]) → W.grownBy w' v.ownBlock → (v'.ownBlock = v.ownBlock ∨ ∃ k, v'.ownBlock = some k ∧ W.heap.size ≤ k) → K (a.put o.dst v') w') :
    if Region.wanted o (yielded ops a.tmps) = true then Oper.wp Try.prog o a (W.alloc (.cells #[.int .i64 y] 3)).drew K Q else E :=
  step_push (W := W.drew) (v := v) (hown.drewN 1) hB hy hlen hgd s x t c ho ht hs hx fun v' w' h1 h2 h3 => h v' w' h1 ⟨h2.os, h2.tape, h2.output, h2.size, h2.block⟩ h3

theorem rdiff_big_same (A B : Option Addr) (n m c d : Nat) (a b : List Int) (w : World) (ha : Ints w w.heap.size A n a) (hb : Ints w w.heap.size B m b) (hn : n ≤ maxLen) (hm : m ≤ maxLen) (h : 1024 < n ∨ 1024 < m) (hab : a = b) :
    Calls Try.prog 16 #[.slice A n c, .slice B m d] w fun e w' => e = .returned (.slice none 0 0) ∧ Below w.heap.size w w' := by
  have HC := Lib.hid (same_any A B n m c d a b w ha hb hn)
  rw [show decide (a = b) = true by simp [hab]] at HC
  unfold maxLen at hn hm
  clear ha hb hab
  by_cases h1 : 1024 < n
  all_goals
    have h2 : 1024 < n ∨ 1024 < m := h
    first | (have h3 : 1024 < m := by omega) | skip
    clear h h2
    go_enter Try.func16, Try.ntmps16
    go_wp2_with fail
    refine HC.out.mono ?_
    rintro e w' ⟨rfl, k, rfl⟩
    go_wp2
    go_ret
    exact ⟨rfl, drewBelow (Below.refl _ _) _⟩

set_option maxHeartbeats 400000 in
theorem rdiff_big_ne (A B : Option Addr) (n m c d : Nat) (a b : List Int) (w : World) (ha : Ints w w.heap.size A n a) (hb : Ints w w.heap.size B m b) (hn : n ≤ maxLen) (hm : m * 8 ≤ 140737488355328) (h : 1024 < n ∨ 1024 < m) (hab : a ≠ b) :
    Calls Try.prog 16 #[.slice A n c, .slice B m d] w fun e w' => ∃ v ps, e = .returned v ∧ OwnPs w' w.heap.size v ps ∧ ps.map (·.1) = [⟨0, n, b⟩] ∧ Below w.heap.size w w' := by
  have HC := Lib.hid (same_any A B n m c d a b w ha hb hn)
  rw [show decide (a = b) = false by simp [hab]] at HC
  have HB := Lib.hid hb
  unfold maxLen at hn
  clear ha hb hab
  by_cases h1 : 1024 < n
  all_goals
    have h2 : 1024 < n ∨ 1024 < m := h
    first | (have h3 : 1024 < m := by omega) | skip
    clear h h2
    go_enter Try.func16, Try.ntmps16
    go_wp2_with fail
    refine HC.out.mono ?_
    rintro e w' ⟨rfl, k, rfl⟩
    have hown : OwnInts ((w.alloc (.cells #[] 3)).drewN k) w.heap.size (.slice (some ⟨w.heap.size, 0, none⟩) 0 0) [] := (OwnInts.made w w.heap.size (Nat.le_refl _)).drewN k
    have hsz : w.heap.size ≤ ((w.alloc (.cells #[] 3)).drewN k).heap.size := by show _ ≤ (w.alloc _).heap.size; simp
    have HBL := Lib.hid (show Below w.heap.size w ((w.alloc (.cells #[] 3)).drewN k) from drewBelow ((Below.refl _ _).alloc (Nat.le_refl _) _) k)
    have hb2 : Ints ((w.alloc (.cells #[] 3)).drewN k) w.heap.size B m b := HB.out.below HBL.out
    have hn2 : (([] : List Int).length + m) * 8 ≤ 140737488355328 := by simpa using hm
    go_wp2_with (at_builtin; go_must (refine wpList_join hown hsz hb2 hn2 rfl (.tmp 23) (.tmp 24) 22 d rfl Try.underlying22 rfl rfl ?_); intro v w1 hown1 hg1 hat1; have HO := Lib.hid hown1; obtain ⟨A1, c1, e1, _, _, _⟩ := hown1.ints; rw [List.nil_append] at e1; subst e1; clear hown1)
    go_ret
    have hsz2 : w.heap.size ≤ w1.heap.size := Nat.le_trans hsz hg1.size
    refine ⟨_, [(⟨0, n, b⟩, .slice A1 b.length c1)], rfl, ⟨?_, fun p hp => ?_, List.pairwise_singleton _ _⟩, rfl, ?_⟩
    · exact World.ownsRow_lit w1 _ 1 hsz2 (by unfold maxLen; omega) rfl
    · rw [List.mem_singleton] at hp; subst hp
      have := HO.out
      rw [List.nil_append] at this
      exact this.alloc _
    · exact (HBL.out.grown hg1 hsz (fun k hk => by
        have e : w.heap.size = k := by simpa [Value.ownBlock] using hk
        omega)).alloc hsz2 _

theorem rdiff_more {w1 w2 : World} {n m r q r' q' kk : Nat} {a b : List Int} {done : List Ev} {ps' : List (Spl × Value)} {o : Value} (x : Ev) (hkk : kk = done.length) (hr : r' ≤ n) (hq : q' ≤ m) (hat : (Dst.zero.run done).at_ = q) (hq' : (Dst.zero.run (done ++ [x])).at_ = q')
    (hal : align a b = done ++ align (a.drop r) (b.drop q)) (hx : align (a.drop r) (b.drop q) = x :: align (a.drop r') (b.drop q')) (hps : ps'.map (·.1) = (Dst.zero.run (done ++ [x])).out) (hown : OwnPs w2 w1.heap.size o ps') (hb : Below w1.heap.size w1 w2) :
    RDiffAt w1 w2 n m a b o (.int .i64 q') (.int .i64 (kk + 1 : Nat)) :=
  ⟨r', q', kk + 1, done ++ [x], ps', rfl, rfl, by show kk + 1 = (done ++ [x]).length; simp [hkk], hr, hq, hq', by rw [Hid, hal, hx]; simp, hps, hown, hb⟩

/-- What the splice before the next event is: open, or a new one. -/
theorem prev_cases (done : List Ev) : (done = [] ∧ (Dst.zero.run done).opened = false) ∨ (∃ d0 y, done = d0 ++ [y] ∧ code y = 0 ∧ (Dst.zero.run done).opened = false) ∨ (∃ d0 y, done = d0 ++ [y] ∧ (code y == 0) = false ∧ (Dst.zero.run done).opened = true) := by
  rcases List.eq_nil_or_concat done with rfl | ⟨d0, y, rfl⟩
  · exact .inl ⟨rfl, rfl⟩
  · rw [List.concat_eq_append]
    cases y with
    | keep z => exact .inr (.inl ⟨d0, _, rfl, rfl, opened_snoc d0 _⟩)
    | del z => exact .inr (.inr ⟨d0, _, rfl, rfl, opened_snoc d0 _⟩)
    | ins z => exact .inr (.inr ⟨d0, _, rfl, rfl, opened_snoc d0 _⟩)
theorem gi_map_prev {es d0 rest : List Ev} {y : Ev} (h : es = (d0 ++ [y]) ++ rest) : gi (es.map code) d0.length = code y := gi_map_code (rest := rest) (by rw [h]; simp)


theorem OwnPs.cellD {w : World} {B g c : Nat} {qs : List (Spl × Value)} {s : Spl} {a : Value} (h : OwnPs w B (.slice (some ⟨g, 0, none⟩) (qs.length + 1) c) (qs ++ [(s, a)])) : w.cell? ⟨g, qs.length * 3 + 1, none⟩ = some (.int .i64 s.drop) := by
  have hrow := h.row
  rw [show (qs ++ [(s, a)]).length = qs.length + 1 by simp] at hrow
  rw [hrow.cellAt (qs.length * 3 + 1) (by omega), pcells_append, ← pcells_len qs, List.getElem?_append_right (by omega)]
  simp [pcells, pcell]
theorem OwnPs.cellA {w : World} {B g c : Nat} {qs : List (Spl × Value)} {s : Spl} {a : Value} (h : OwnPs w B (.slice (some ⟨g, 0, none⟩) (qs.length + 1) c) (qs ++ [(s, a)])) : w.cell? ⟨g, qs.length * 3 + 2, none⟩ = some a := by
  have hrow := h.row
  rw [show (qs ++ [(s, a)]).length = qs.length + 1 by simp] at hrow
  rw [hrow.cellAt (qs.length * 3 + 2) (by omega), pcells_append, ← pcells_len qs, List.getElem?_append_right (by omega)]
  simp [pcells, pcell]
theorem OwnPs.frozenAt {w : World} {B g c : Nat} {qs : List (Spl × Value)} {s : Spl} {a : Value} (h : OwnPs w B (.slice (some ⟨g, 0, none⟩) (qs.length + 1) c) (qs ++ [(s, a)])) (j : Nat) : w.frozen? ⟨g, j, none⟩ = false := by
  have hrow := h.row
  rw [show (qs ++ [(s, a)]).length = qs.length + 1 by simp] at hrow
  exact hrow.frozenAt j
theorem out_del {done : List Ev} {ps qs : List (Spl × Value)} {s : Spl} {a : Value} (n : Int) (hp : ps.map (·.1) = (Dst.zero.run done).out) (hq : opened ps (Dst.zero.run done).at_ (Dst.zero.run done).opened = qs ++ [(s, a)]) :
    (qs ++ [({ s with drop := s.drop + 1 }, a)]).map (fun p : Spl × Value => p.1) = (Dst.zero.run (done ++ [.del n])).out := by
  rw [Dst.run_snoc]
  simp only [Dst.step]
  rw [opened_map hp hq, mapLast_snoc]
  simp
theorem out_ins {done : List Ev} {ps qs : List (Spl × Value)} {s : Spl} {a a' : Value} (n : Int) (hp : ps.map (·.1) = (Dst.zero.run done).out) (hq : opened ps (Dst.zero.run done).at_ (Dst.zero.run done).opened = qs ++ [(s, a)]) :
    (qs ++ [({ s with add := s.add ++ [n] }, a')]).map (fun p : Spl × Value => p.1) = (Dst.zero.run (done ++ [.ins n])).out := by
  rw [Dst.run_snoc]
  simp only [Dst.step]
  rw [opened_map hp hq, mapLast_snoc]
  simp
theorem ownsRow_mono {w : World} {B B' : Nat} {e : TypeId} {size : Nat} {v : Value} {n : Nat} {xs : List Value} (h : w.ownsRow B e size v n xs) (hB : B' ≤ B) : w.ownsRow B' e size v n xs :=
  ⟨h.1, h.2.imp id fun ⟨g, cap, cur, a, b, r⟩ => ⟨g, cap, cur, a, Nat.le_trans hB b, r⟩⟩

set_option maxRecDepth 100000 in
set_option maxHeartbeats 4000000 in
theorem rdiff_small (A B : Option Addr) (n m c d : Nat) (a b : List Int) (w : World) (ha : Ints w w.heap.size A n a) (hb : Ints w w.heap.size B m b) (hn : n ≤ 1024) (hm : m ≤ 1024) :
    Calls Try.prog 16 #[.slice A n c, .slice B m d] w fun e w' => ∃ v ps, e = .returned v ∧ OwnPs w' w.heap.size v ps ∧ ps.map (·.1) = (Dst.zero.run (align a b)).out ∧ Below w.heap.size w w' := by
  have HN := Lib.hid ha.len
  have HM := Lib.hid hb.len
  have hlen := align_len _ a b (Nat.le_refl _)
  rw [HN.out, HM.out] at hlen
  go_enter Try.func16, Try.ntmps16
  go_wp2_with fail
  refine (steps_any A B n m c d a b _ ha hb hn hm).mono ?_
  rintro e w1 ⟨v, rfl, hown0, hb1⟩
  obtain ⟨D, e, rfl, _, _, hst⟩ := hown0.ints
  rw [List.length_map] at hst ⊢
  obtain ⟨L, hL⟩ : ∃ L, L = (align a b).length := ⟨_, rfl⟩
  have HL := Lib.hid hL
  rw [← hL] at hst hlen ⊢
  clear hL hown0
  go_wp2
  go_loopw [6, 7, 8, 9] (fun o j k _ wr => RDiffAt w1 wr n m a b o j k) (fun _ _ k _ _ => L - (intOf k).toNat)
  case atStart => exact ⟨0, 0, 0, [], [], rfl, rfl, rfl, Nat.zero_le _, Nat.zero_le _, rfl, by simp [Hid], rfl, OwnPs.nil_ _ _, Below.refl _ _⟩
  case round =>
    obtain ⟨r, q, kk, done, ps, rfl, rfl, hkk, hr, hq, hat, HAL, hps, hown, hbel⟩ := hrel
    have HO := Lib.hid hown; clear hown
    have hle := Dst.zero_le done
    have hpl : ps.length = (Dst.zero.run done).out.length := by rw [← hps.out]; simp
    have hmem : ∀ p ∈ ps, p.1 ∈ (Dst.zero.run done).out := fun p hp => by rw [← hps.out]; exact List.mem_map_of_mem hp
    have HD : Hid (ps.length ≤ done.length ∧ ∀ p ∈ ps, p.1.drop ≤ done.length ∧ p.1.add.length ≤ done.length) := ⟨by have := hle.2.1; omega, fun p hp => ⟨(hle.2.2.1 _ (hmem p hp)).2.1, (hle.2.2.1 _ (hmem p hp)).2.2⟩⟩
    clear hle hpl hmem
    have hs : ∀ x rest, align (a.drop r) (b.drop q) = x :: rest → kk < L ∧ ∃ sd, D = some sd ∧ sd.block < w1.heap.size ∧ wr.cell? (sd.add kk) = some (.int .i64 (code x)) := by
      intro x rest hx
      have h1 := HAL.out
      rw [hx] at h1
      have h2 : kk < L := by rw [HL.out, h1, hkk.out]; simp
      obtain ⟨sd, e1, h3, h4⟩ := hst.at_ h2
      refine ⟨h2, sd, e1, h3, ?_⟩
      rw [hkk.out, gi_map_code h1] at h4
      rw [hkk.out]
      exact (hbel.cell (p := sd.add done.length) (by rw [add_block]; exact h3)).trans h4
    have hpv : ∀ sd, D = some sd → ∀ d0 y, done = d0 ++ [y] → 0 < kk ∧ wr.cell? (sd.add (kk - 1)) = some (.int .i64 (code y)) := by
      intro sd e1 d0 y hd
      have h1 := HAL.out
      rw [hd] at h1
      have hkd : kk = d0.length + 1 := by rw [hkk.out, hd]; simp
      have h2 : d0.length < L := by rw [HL.out, h1]; simp <;> omega
      obtain ⟨sd', e2, h3, h4⟩ := hst.at_ h2
      rw [e1] at e2; injection e2 with e2; subst e2
      rw [gi_map_prev h1] at h4
      refine ⟨by omega, ?_⟩
      rw [show kk - 1 = d0.length by omega]
      exact (hbel.cell (p := sd.add d0.length) (by rw [add_block]; exact h3)).trans h4
    have hkl : kk ≤ L := by rw [HL.out, HAL.out, hkk.out]; simp
    have HS := Lib.hid (And.intro hs hpv)
    clear hs hpv
    rcases align_cases a b r q with ⟨_, _, hx⟩ | ⟨hrn, hqm, he, hx⟩ | ⟨hrn, hx⟩ | ⟨hqm, hx⟩
    · have hF := HAL.out
      rw [hx, List.append_nil] at hF
      have HF := Lib.hid hF
      have hl : kk = L := by rw [HL.out, hF, hkk.out]
      clear hF hx
      subst hl
      have hown := HO.out
      go_wp2
      go_ret
      exact ⟨_, ps, rfl, ⟨ownsRow_mono hown.row hb1.size, fun p hp => (hown.adds p hp).mono hb1.size, hown.apart⟩, by rw [HF.out]; exact hps.out, hb1.trans (hbel.mono hb1.size)⟩
    · clear he
      obtain ⟨hdL, sd, rfl, hsb, hcs⟩ := HS.out.1 _ _ hx
      replace hcs : wr.cell? (sd.add kk) = some (.int .i64 0) := hcs
      rw [HN.out] at hrn
      rw [HM.out] at hqm
      have HX := Lib.hid hx; clear hx
      go_wp2
      go_roundw
      case rel => exact rdiff_more (r := r) (r' := r + 1) (q' := q + 1) _ hkk.out (by omega) (by omega) hat.out (by rw [Dst.run_snoc]; simp [Dst.step]; exact hat.out) HAL.out HX.out (by rw [Dst.run_snoc]; exact hps.out) HO.out hbel
      case measure => simp [intOf] <;> omega
    · obtain ⟨hdL, sd, rfl, hsb, hcs⟩ := HS.out.1 _ _ hx
      replace hcs : wr.cell? (sd.add kk) = some (.int .i64 1) := hcs
      rw [HN.out] at hrn
      have HX := Lib.hid hx; clear hx
      rcases prev_cases done with ⟨hd, hop⟩ | ⟨d0, y, hd, hcy, hop⟩ | ⟨d0, y, hd, hcy, hop⟩
      · have hk0 : kk ≤ 0 := by rw [hkk.out, hd]; exact Nat.le_refl _
        have hkz : ((kk : Int) == 0) = true := by simp; omega
        have HBS : w1.heap.size ≤ wr.heap.size := hbel.size
        have hpl2 : ps.length < 1099511627776 := by have h1 := HD.out.1; have h3 := hkk.out; omega
        clear hd
        go_wp2_with (at_builtin; go_must (refine wpList_pushS HO.out HBS hpl2 rfl (.tmp 54) (.tmp 57) 27 1 rfl Try.underlying27 rfl rfl ?_); intro v' w2 hown1 hg1 hat1; (
          have HBX := Lib.hid (hbel.grown hg1 HBS (fun k hk => (HO.out.row.lt k hk).1))
          have hcs2 : w2.cell? (sd.add kk) = some (.int .i64 1) := (((Below.refl w1.heap.size wr).grown hg1 HBS (fun k hk => (HO.out.row.lt k hk).1)).cell (p := sd.add kk) (by rw [add_block]; exact hsb)).trans hcs
          obtain ⟨s, hs0⟩ : ∃ s : Spl, s = ⟨q, 0, []⟩ := ⟨_, rfl⟩
          obtain ⟨a0, ha0⟩ : ∃ x : Value, x = .slice none 0 0 := ⟨_, rfl⟩
          rw [← hs0, ← ha0] at hown1
          have HQ : Hid (opened ps (Dst.zero.run done).at_ (Dst.zero.run done).opened = ps ++ [(s, a0)]) := by rw [Hid, hop, hat.out, hs0, ha0]; rfl
          have hdr1 : s.drop < 4096 := by rw [hs0]; show (0 : Nat) < 4096; omega
          have hdr2 : s.add.length < 4096 := by rw [hs0]; show (0 : Nat) < 4096; omega
          clear hs0 ha0
          have HOW := Lib.hid hown1
          obtain ⟨g, c2, e1, _, _⟩ := hown1.row.form (by simp)
          obtain ⟨L1, hL1⟩ : ∃ L, (ps ++ [(s, a0)]).length = L := ⟨_, rfl⟩
          rw [hL1] at e1
          have hL2 : L1 = ps.length + 1 := by rw [← hL1]; simp
          subst hL2
          subst e1
          clear hL1 hown1
          have hcl := HOW.out.cellD
          have hca := HOW.out.cellA
          have hf1 := HOW.out.frozenAt (ps.length * 3 + 1)
          have hf2 := HOW.out.frozenAt (ps.length * 3 + 2)))
        go_roundw
        case rel => exact rdiff_more (r := r) (r' := r + 1) (q' := q) _ hkk.out (by omega) (by omega) hat.out (by rw [Dst.run_snoc]; exact hat.out) HAL.out HX.out (out_del _ hps.out HQ.out) HOW.out.dropped (setBelow HBX.out (HOW.out.row.lt g rfl).1 _)
        case measure => simp [intOf] <;> omega
      · obtain ⟨hk0, hpc⟩ := HS.out.2 sd rfl d0 y hd
        rw [hcy] at hpc
        clear hd hcy
        have HBS : w1.heap.size ≤ wr.heap.size := hbel.size
        have hpl2 : ps.length < 1099511627776 := by have h1 := HD.out.1; have h3 := hkk.out; omega
        go_wp2_with (at_builtin; go_must (refine wpList_pushS HO.out HBS hpl2 rfl (.tmp 54) (.tmp 57) 27 1 rfl Try.underlying27 rfl rfl ?_); intro v' w2 hown1 hg1 hat1; (
          have HBX := Lib.hid (hbel.grown hg1 HBS (fun k hk => (HO.out.row.lt k hk).1))
          have hcs2 : w2.cell? (sd.add kk) = some (.int .i64 1) := (((Below.refl w1.heap.size wr).grown hg1 HBS (fun k hk => (HO.out.row.lt k hk).1)).cell (p := sd.add kk) (by rw [add_block]; exact hsb)).trans hcs
          obtain ⟨s, hs0⟩ : ∃ s : Spl, s = ⟨q, 0, []⟩ := ⟨_, rfl⟩
          obtain ⟨a0, ha0⟩ : ∃ x : Value, x = .slice none 0 0 := ⟨_, rfl⟩
          rw [← hs0, ← ha0] at hown1
          have HQ : Hid (opened ps (Dst.zero.run done).at_ (Dst.zero.run done).opened = ps ++ [(s, a0)]) := by rw [Hid, hop, hat.out, hs0, ha0]; rfl
          have hdr1 : s.drop < 4096 := by rw [hs0]; show (0 : Nat) < 4096; omega
          have hdr2 : s.add.length < 4096 := by rw [hs0]; show (0 : Nat) < 4096; omega
          clear hs0 ha0
          have HOW := Lib.hid hown1
          obtain ⟨g, c2, e1, _, _⟩ := hown1.row.form (by simp)
          obtain ⟨L1, hL1⟩ : ∃ L, (ps ++ [(s, a0)]).length = L := ⟨_, rfl⟩
          rw [hL1] at e1
          have hL2 : L1 = ps.length + 1 := by rw [← hL1]; simp
          subst hL2
          subst e1
          clear hL1 hown1
          have hcl := HOW.out.cellD
          have hca := HOW.out.cellA
          have hf1 := HOW.out.frozenAt (ps.length * 3 + 1)
          have hf2 := HOW.out.frozenAt (ps.length * 3 + 2)))
        go_roundw
        case rel => exact rdiff_more (r := r) (r' := r + 1) (q' := q) _ hkk.out (by omega) (by omega) hat.out (by rw [Dst.run_snoc]; exact hat.out) HAL.out HX.out (out_del _ hps.out HQ.out) HOW.out.dropped (setBelow HBX.out (HOW.out.row.lt g rfl).1 _)
        case measure => simp [intOf] <;> omega
      · obtain ⟨hk0, hpc⟩ := HS.out.2 sd rfl d0 y hd
        obtain ⟨cy, hcy'⟩ : ∃ z, z = code y := ⟨_, rfl⟩
        rw [← hcy'] at hpc hcy
        clear hcy' hd
        have hne : ps ≠ [] := fun e0 => (Dst.zero_le done).2.2.2 hop (by rw [← hps.out, e0]; rfl)
        obtain ⟨qs, sa, e0⟩ : ∃ qs p, ps = qs ++ [p] := ⟨_, _, (List.dropLast_concat_getLast hne).symm⟩
        obtain ⟨s, a0⟩ := sa
        subst e0
        clear hne
        have HQ : Hid (opened (qs ++ [(s, a0)]) (Dst.zero.run done).at_ (Dst.zero.run done).opened = qs ++ [(s, a0)]) := by rw [Hid, hop]; rfl
        clear hop
        obtain ⟨g, c2, e1, _, _⟩ := HO.out.row.form (by simp)
        have HOW := HO
        obtain ⟨L1, hL1⟩ : ∃ L, (qs ++ [(s, a0)]).length = L := ⟨_, rfl⟩
        rw [hL1] at e1
        have hL2 : L1 = qs.length + 1 := by rw [← hL1]; simp
        subst hL2
        subst e1
        clear hL1
        have hdr : qs.length < 4096 ∧ s.drop < 4096 ∧ s.add.length < 4096 := by
          have h1 := HD.out.1
          have h2 := HD.out.2 (s, a0) (by simp)
          have h3 := hkk.out
          simp at h1 h2
          omega
        obtain ⟨hdr0, hdr1, hdr2⟩ := hdr
        have hcl := HOW.out.cellD
        have hca := HOW.out.cellA
        have hf1 := HOW.out.frozenAt (qs.length * 3 + 1)
        have hf2 := HOW.out.frozenAt (qs.length * 3 + 2)
        have HBX := Lib.hid hbel
        go_wp2

        go_roundw
        case rel => exact rdiff_more (r := r) (r' := r + 1) (q' := q) _ hkk.out (by omega) (by omega) hat.out (by rw [Dst.run_snoc]; exact hat.out) HAL.out HX.out (out_del _ hps.out HQ.out) HOW.out.dropped (setBelow HBX.out (HOW.out.row.lt g rfl).1 _)
        case measure => simp [intOf] <;> omega
    · obtain ⟨hdL, sd, rfl, hsb, hcs⟩ := HS.out.1 _ _ hx
      replace hcs : wr.cell? (sd.add kk) = some (.int .i64 2) := hcs
      rw [HM.out] at hqm
      have HX := Lib.hid hx; clear hx
      obtain ⟨bd, rfl, hbb, hcb0⟩ := hb.at_ (k := q) (by omega)
      have hcb : wr.cell? (bd.add q) = some (.int .i64 (gi b q)) := (hbel.cell (p := bd.add q) (by rw [add_block]; have := hb1.size; omega)).trans ((hb1.cell (p := bd.add q) (by rw [add_block]; exact hbb)).trans hcb0)
      rcases prev_cases done with ⟨hd, hop⟩ | ⟨d0, y, hd, hcy, hop⟩ | ⟨d0, y, hd, hcy, hop⟩
      · have hk0 : kk ≤ 0 := by rw [hkk.out, hd]; exact Nat.le_refl _
        have hkz : ((kk : Int) == 0) = true := by simp; omega
        have HBS : w1.heap.size ≤ wr.heap.size := hbel.size
        have hpl2 : ps.length < 1099511627776 := by have h1 := HD.out.1; have h3 := hkk.out; omega
        clear hd
        go_wp2_with (at_builtin; go_must (refine wpList_pushS HO.out HBS hpl2 rfl (.tmp 54) (.tmp 57) 27 1 rfl Try.underlying27 rfl rfl ?_); intro v' w2 hown1 hg1 hat1; (
          have HBX := Lib.hid (hbel.grown hg1 HBS (fun k hk => (HO.out.row.lt k hk).1))
          have hcs2 : w2.cell? (sd.add kk) = some (.int .i64 2) := (((Below.refl w1.heap.size wr).grown hg1 HBS (fun k hk => (HO.out.row.lt k hk).1)).cell (p := sd.add kk) (by rw [add_block]; exact hsb)).trans hcs
          have hcb2 : w2.cell? (bd.add q) = some (.int .i64 (gi b q)) := (((Below.refl w1.heap.size wr).grown hg1 HBS (fun k hk => (HO.out.row.lt k hk).1)).cell (p := bd.add q) (by rw [add_block]; have := hb1.size; omega)).trans hcb
          obtain ⟨s, hs0⟩ : ∃ s : Spl, s = ⟨q, 0, []⟩ := ⟨_, rfl⟩
          obtain ⟨a0, ha0⟩ : ∃ x : Value, x = .slice none 0 0 := ⟨_, rfl⟩
          rw [← hs0, ← ha0] at hown1
          have HQ : Hid (opened ps (Dst.zero.run done).at_ (Dst.zero.run done).opened = ps ++ [(s, a0)]) := by rw [Hid, hop, hat.out, hs0, ha0]; rfl
          have hdr1 : s.drop < 4096 := by rw [hs0]; show (0 : Nat) < 4096; omega
          have hdr2 : s.add.length < 4096 := by rw [hs0]; show (0 : Nat) < 4096; omega
          clear hs0 ha0
          have HOW := Lib.hid hown1
          obtain ⟨g, c2, e1, _, _⟩ := hown1.row.form (by simp)
          obtain ⟨L1, hL1⟩ : ∃ L, (ps ++ [(s, a0)]).length = L := ⟨_, rfl⟩
          rw [hL1] at e1
          have hL2 : L1 = ps.length + 1 := by rw [← hL1]; simp
          subst hL2
          subst e1
          clear hL1 hown1
          have hcl := HOW.out.cellD
          have hca := HOW.out.cellA
          have hf1 := HOW.out.frozenAt (ps.length * 3 + 1)
          have hf2 := HOW.out.frozenAt (ps.length * 3 + 2)))
        have hownA := HOW.out.adds (s, a0) (by simp)
        have hBA : w1.heap.size ≤ w2.heap.size := HBX.out.size
        have hgb2 := hb.bounds q
        have hsd2 : s.add.length < 1099511627776 := by omega
        have hbI1 : (ps.length : Int) < (ps.length : Int) + 1 := by omega
        have hbI2 : (q : Int) < m := by omega
        go_wp2
        go_region_law (first | (refine step_push_drew hownA hBA hgb2 hsd2 rfl (.tmp 81) (.tmp 86) 22 1 rfl Try.underlying22 rfl rfl ?_; intro a1 w3 hown3 hg3 hat3; (
          have hgb : w3.heap[g]? = w2.heap[g]? := hg3.block g (HOW.out.row.lt g rfl).2 (fun e => ints_ne_row HOW.out.row hownA e.symm rfl)
          have k1 : w3.cell? ⟨g, ps.length * 3 + 2, none⟩ = some a0 := (World.cell?_of_block (w := w2) (a := ⟨g, ps.length * 3 + 2, none⟩) hgb).trans hca
          have k2 : w3.frozen? ⟨g, ps.length * 3 + 2, none⟩ = false := (World.frozen?_of_block (w := w2) (a := ⟨g, ps.length * 3 + 2, none⟩) hgb).trans hf2
          have HO3 := Lib.hid hown3
          have HG3 := Lib.hid (And.intro hg3 hat3)
          obtain ⟨A1, d1, e3, _, _, _⟩ := hown3.ints
          obtain ⟨L3, hL3⟩ : ∃ L, (s.add ++ [gi b q]).length = L := ⟨_, rfl⟩
          rw [hL3] at e3
          subst e3
          clear hL3 hgb hown3 hg3 hat3)))
        all_goals
          go_wp2
          go_roundw
          case rel => exact rdiff_more (r := r) (r' := r) (q' := q + 1) _ hkk.out (by omega) (by omega) hat.out (by rw [Dst.run_snoc]; simp [Dst.step]; exact hat.out) HAL.out HX.out (out_ins _ hps.out HQ.out) (HOW.out.added HO3.out HG3.out.1 HG3.out.2) (setBelow (HBX.out.grown HG3.out.1 hBA (fun k hk => (hownA.1.lt k hk).1)) (HOW.out.row.lt g rfl).1 _)
          case measure => simp [intOf] <;> omega
      · obtain ⟨hk0, hpc⟩ := HS.out.2 sd rfl d0 y hd
        rw [hcy] at hpc
        clear hd hcy
        have HBS : w1.heap.size ≤ wr.heap.size := hbel.size
        have hpl2 : ps.length < 1099511627776 := by have h1 := HD.out.1; have h3 := hkk.out; omega
        go_wp2_with (at_builtin; go_must (refine wpList_pushS HO.out HBS hpl2 rfl (.tmp 54) (.tmp 57) 27 1 rfl Try.underlying27 rfl rfl ?_); intro v' w2 hown1 hg1 hat1; (
          have HBX := Lib.hid (hbel.grown hg1 HBS (fun k hk => (HO.out.row.lt k hk).1))
          have hcs2 : w2.cell? (sd.add kk) = some (.int .i64 2) := (((Below.refl w1.heap.size wr).grown hg1 HBS (fun k hk => (HO.out.row.lt k hk).1)).cell (p := sd.add kk) (by rw [add_block]; exact hsb)).trans hcs
          have hcb2 : w2.cell? (bd.add q) = some (.int .i64 (gi b q)) := (((Below.refl w1.heap.size wr).grown hg1 HBS (fun k hk => (HO.out.row.lt k hk).1)).cell (p := bd.add q) (by rw [add_block]; have := hb1.size; omega)).trans hcb
          obtain ⟨s, hs0⟩ : ∃ s : Spl, s = ⟨q, 0, []⟩ := ⟨_, rfl⟩
          obtain ⟨a0, ha0⟩ : ∃ x : Value, x = .slice none 0 0 := ⟨_, rfl⟩
          rw [← hs0, ← ha0] at hown1
          have HQ : Hid (opened ps (Dst.zero.run done).at_ (Dst.zero.run done).opened = ps ++ [(s, a0)]) := by rw [Hid, hop, hat.out, hs0, ha0]; rfl
          have hdr1 : s.drop < 4096 := by rw [hs0]; show (0 : Nat) < 4096; omega
          have hdr2 : s.add.length < 4096 := by rw [hs0]; show (0 : Nat) < 4096; omega
          clear hs0 ha0
          have HOW := Lib.hid hown1
          obtain ⟨g, c2, e1, _, _⟩ := hown1.row.form (by simp)
          obtain ⟨L1, hL1⟩ : ∃ L, (ps ++ [(s, a0)]).length = L := ⟨_, rfl⟩
          rw [hL1] at e1
          have hL2 : L1 = ps.length + 1 := by rw [← hL1]; simp
          subst hL2
          subst e1
          clear hL1 hown1
          have hcl := HOW.out.cellD
          have hca := HOW.out.cellA
          have hf1 := HOW.out.frozenAt (ps.length * 3 + 1)
          have hf2 := HOW.out.frozenAt (ps.length * 3 + 2)))
        have hownA := HOW.out.adds (s, a0) (by simp)
        have hBA : w1.heap.size ≤ w2.heap.size := HBX.out.size
        have hgb2 := hb.bounds q
        have hsd2 : s.add.length < 1099511627776 := by omega
        have hbI1 : (ps.length : Int) < (ps.length : Int) + 1 := by omega
        have hbI2 : (q : Int) < m := by omega
        go_wp2
        go_region_law (first | (refine step_push_drew hownA hBA hgb2 hsd2 rfl (.tmp 81) (.tmp 86) 22 1 rfl Try.underlying22 rfl rfl ?_; intro a1 w3 hown3 hg3 hat3; (
          have hgb : w3.heap[g]? = w2.heap[g]? := hg3.block g (HOW.out.row.lt g rfl).2 (fun e => ints_ne_row HOW.out.row hownA e.symm rfl)
          have k1 : w3.cell? ⟨g, ps.length * 3 + 2, none⟩ = some a0 := (World.cell?_of_block (w := w2) (a := ⟨g, ps.length * 3 + 2, none⟩) hgb).trans hca
          have k2 : w3.frozen? ⟨g, ps.length * 3 + 2, none⟩ = false := (World.frozen?_of_block (w := w2) (a := ⟨g, ps.length * 3 + 2, none⟩) hgb).trans hf2
          have HO3 := Lib.hid hown3
          have HG3 := Lib.hid (And.intro hg3 hat3)
          obtain ⟨A1, d1, e3, _, _, _⟩ := hown3.ints
          obtain ⟨L3, hL3⟩ : ∃ L, (s.add ++ [gi b q]).length = L := ⟨_, rfl⟩
          rw [hL3] at e3
          subst e3
          clear hL3 hgb hown3 hg3 hat3)))
        all_goals
          go_wp2
          go_roundw
          case rel => exact rdiff_more (r := r) (r' := r) (q' := q + 1) _ hkk.out (by omega) (by omega) hat.out (by rw [Dst.run_snoc]; simp [Dst.step]; exact hat.out) HAL.out HX.out (out_ins _ hps.out HQ.out) (HOW.out.added HO3.out HG3.out.1 HG3.out.2) (setBelow (HBX.out.grown HG3.out.1 hBA (fun k hk => (hownA.1.lt k hk).1)) (HOW.out.row.lt g rfl).1 _)
          case measure => simp [intOf] <;> omega
      · obtain ⟨hk0, hpc⟩ := HS.out.2 sd rfl d0 y hd
        obtain ⟨cy, hcy'⟩ : ∃ z, z = code y := ⟨_, rfl⟩
        rw [← hcy'] at hpc hcy
        clear hcy' hd
        have hne : ps ≠ [] := fun e0 => (Dst.zero_le done).2.2.2 hop (by rw [← hps.out, e0]; rfl)
        obtain ⟨qs, sa, e0⟩ : ∃ qs p, ps = qs ++ [p] := ⟨_, _, (List.dropLast_concat_getLast hne).symm⟩
        obtain ⟨s, a0⟩ := sa
        subst e0
        clear hne
        have HQ : Hid (opened (qs ++ [(s, a0)]) (Dst.zero.run done).at_ (Dst.zero.run done).opened = qs ++ [(s, a0)]) := by rw [Hid, hop]; rfl
        clear hop
        obtain ⟨g, c2, e1, _, _⟩ := HO.out.row.form (by simp)
        have HOW := HO
        obtain ⟨L1, hL1⟩ : ∃ L, (qs ++ [(s, a0)]).length = L := ⟨_, rfl⟩
        rw [hL1] at e1
        have hL2 : L1 = qs.length + 1 := by rw [← hL1]; simp
        subst hL2
        subst e1
        clear hL1
        have hdr : qs.length < 4096 ∧ s.drop < 4096 ∧ s.add.length < 4096 := by
          have h1 := HD.out.1
          have h2 := HD.out.2 (s, a0) (by simp)
          have h3 := hkk.out
          simp at h1 h2
          omega
        obtain ⟨hdr0, hdr1, hdr2⟩ := hdr
        have hcl := HOW.out.cellD
        have hca := HOW.out.cellA
        have hf1 := HOW.out.frozenAt (qs.length * 3 + 1)
        have hf2 := HOW.out.frozenAt (qs.length * 3 + 2)
        have HBX := Lib.hid hbel
        have hownA := HOW.out.adds (s, a0) (by simp)
        have hBA : w1.heap.size ≤ wr.heap.size := HBX.out.size
        have hgb2 := hb.bounds q
        have hsd2 : s.add.length < 1099511627776 := by omega
        have hbI1 : (qs.length : Int) < (qs.length : Int) + 1 := by omega
        have hbI2 : (q : Int) < m := by omega
        go_wp2
        go_region_law (first | (refine step_push_drew hownA hBA hgb2 hsd2 rfl (.tmp 81) (.tmp 86) 22 1 rfl Try.underlying22 rfl rfl ?_; intro a1 w3 hown3 hg3 hat3; (
          have hgb : w3.heap[g]? = wr.heap[g]? := hg3.block g (HOW.out.row.lt g rfl).2 (fun e => ints_ne_row HOW.out.row hownA e.symm rfl)
          have k1 : w3.cell? ⟨g, qs.length * 3 + 2, none⟩ = some a0 := (World.cell?_of_block (w := wr) (a := ⟨g, qs.length * 3 + 2, none⟩) hgb).trans hca
          have k2 : w3.frozen? ⟨g, qs.length * 3 + 2, none⟩ = false := (World.frozen?_of_block (w := wr) (a := ⟨g, qs.length * 3 + 2, none⟩) hgb).trans hf2
          have HO3 := Lib.hid hown3
          have HG3 := Lib.hid (And.intro hg3 hat3)
          obtain ⟨A1, d1, e3, _, _, _⟩ := hown3.ints
          obtain ⟨L3, hL3⟩ : ∃ L, (s.add ++ [gi b q]).length = L := ⟨_, rfl⟩
          rw [hL3] at e3
          subst e3
          clear hL3 hgb hown3 hg3 hat3)))
        all_goals
          go_wp2
          go_roundw
          case rel => exact rdiff_more (r := r) (r' := r) (q' := q + 1) _ hkk.out (by omega) (by omega) hat.out (by rw [Dst.run_snoc]; simp [Dst.step]; exact hat.out) HAL.out HX.out (out_ins _ hps.out HQ.out) (HOW.out.added HO3.out HG3.out.1 HG3.out.2) (setBelow (HBX.out.grown HG3.out.1 hBA (fun k hk => (hownA.1.lt k hk).1)) (HOW.out.row.lt g rfl).1 _)
          case measure => simp [intOf] <;> omega

/-- The reference's Diff, whatever the lists. -/
theorem rdiff_any (A B : Option Addr) (n m c d : Nat) (a b : List Int) (w : World) (ha : Ints w w.heap.size A n a) (hb : Ints w w.heap.size B m b) (hn : n ≤ maxLen) (hm : m * 8 ≤ 140737488355328) :
    Calls Try.prog 16 #[.slice A n c, .slice B m d] w fun e w' => ∃ v ps, e = .returned v ∧ OwnPs w' w.heap.size v ps ∧ ps.map (·.1) = diffS a b ∧ Below w.heap.size w w' := by
  have h1 := ha.len
  have h2 := hb.len
  unfold diffS
  rw [h1, h2]
  by_cases h : 1024 < n ∨ 1024 < m
  · rw [if_pos h]
    by_cases hab : a = b
    · rw [if_pos hab]
      refine (rdiff_big_same A B n m c d a b w ha hb hn (by simp only [maxLen]; omega) h hab).mono ?_
      rintro e w' ⟨rfl, hb⟩
      exact ⟨_, [], rfl, OwnPs.nil_ _ _, rfl, hb⟩
    · rw [if_neg hab]
      exact rdiff_big_ne A B n m c d a b w ha hb hn hm h hab
  · rw [if_neg h]
    exact rdiff_small A B n m c d a b w ha hb (by omega) (by omega)
end Go.Proofs.Ytfnbchbndmbjaaa
