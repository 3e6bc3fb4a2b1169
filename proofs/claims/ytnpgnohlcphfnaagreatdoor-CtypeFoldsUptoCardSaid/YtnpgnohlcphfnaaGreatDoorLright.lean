/- The contract of right: a type that Write preserves (printed by gen_right.py). -/
import Derived.Test.YtnpgnohlcphfnaaGreatDoorLvalid
import Derived.Test.YtnpgnohlcphfnaaGreatDoorM08
import Derived.Test.YtnpgnohlcphfnaaGreatDoorM15
import Derived.Test.YtnpgnohlcphfnaaGreatDoorRunR
import Derived.Test.YtnpgnohlcphfnaaGreatDoorHeadR
import Derived.Deep.RegionHeld3
namespace Go.Proofs.YtnpgnohlcphfnaaGreatDoor
open Go.RowKit
set_option linter.unusedVariables false

/-- A type that Write preserves. -/
structure RightT (kind sub : List UInt8) (ps : List (List UInt8 × List UInt8)) : Prop where
  kw : isWord kind = true
  sw : isWord sub = true
  kl : smallP kind = kind
  sl : smallP sub = sub
  len : ps.length ≤ 20
  good : ∀ p ∈ ps, GoodP p ∧ p.2.length ≤ 2000
  nodup : (ps.map (·.1)).Nodup
theorem good_of {p : List UInt8 × List UInt8} (h1 : namedB p.1 = true) (h2 : p.2.length ≤ 2000) (h3 : Lib.validD p.2 = true) : GoodP p ∧ p.2.length ≤ 2000 := by
  unfold namedB at h1
  rw [Bool.and_eq_true, Bool.and_eq_true] at h1
  refine ⟨⟨h1.2.1, ?_, of_decide_eq_true h1.2.2, valid_repair h3⟩, h2⟩
  intro h
  rw [List.contains_iff_mem.2 h] at h1
  exact absurd h1.1 (by decide)
/-- The state of the loop over the parameters. -/
structure RtRel (w : World) (ps : List (List UInt8 × List UInt8)) (k : Nat) (wr : World) : Prop where
  good : ∀ p ∈ ps.take k, GoodP p ∧ p.2.length ≤ 2000
  nodup : ((ps.take k).map (·.1)).Nodup
  bel : Below w.heap.size w wr
theorem rt_step {w wr : World} {ps : List (List UInt8 × List UInt8)} {k : Nat} (hk : k < ps.length) (h : RtRel w ps k wr) (hg : GoodP ps[k] ∧ ps[k].2.length ≤ 2000) (hd : ∀ j (hj : j < ps.length), j < k → ps[j].1 ≠ ps[k].1) : ∀ W, Below w.heap.size w W → RtRel w ps (k + 1) W := fun W hW => by
  refine ⟨fun p hp => ?_, ?_, hW⟩
  · rw [List.take_succ_eq_append_getElem hk, List.mem_append] at hp
    rcases hp with hp | hp
    · exact h.good p hp
    · rw [List.mem_singleton.1 hp]; exact hg
  · rw [List.take_succ_eq_append_getElem hk, List.map_append, List.nodup_append]
    refine ⟨h.nodup, by simp, ?_⟩
    intro a ha b hb
    rw [List.map_cons, List.map_nil, List.mem_singleton] at hb
    subst hb
    obtain ⟨p, hp, rfl⟩ := List.mem_map.1 ha
    obtain ⟨j, hj, rfl⟩ := List.getElem_of_mem hp
    rw [List.length_take] at hj
    rw [List.getElem_take]
    exact hd j (by omega) (by omega)
structure IrRel (w : World) (ps : List (List UInt8 × List UInt8)) (nm : List UInt8) (i : Nat) (wr : World) : Prop where
  ne : ∀ j (hj : j < ps.length), j < i → ps[j].1 ≠ nm
  bel : Below w.heap.size w wr
structure RtW (W0 : World) (b : Nat) (k s : ByteArray) (A : Option Addr) (n c : Nat) (wc : World) : Prop where
  bel : Below W0.heap.size W0 wc
  c0 : wc.cell? ⟨b, 0, none⟩ = some (.string k)
  c1 : wc.cell? ⟨b, 1, none⟩ = some (.string s)
  c2 : wc.cell? ⟨b, 2, none⟩ = some (.slice A n c)
def RightPost (w : World) (kind sub : List UInt8) (ps : List (List UInt8 × List UInt8)) (e : Ending) (w' : World) : Prop := ∃ b, e = .returned (.bool b) ∧ Below w.heap.size w w' ∧ (b = true → RightT kind sub ps)
theorem right_no {w w' : World} {kind sub : List UInt8} {ps : List (List UInt8 × List UInt8)} (h : Below w.heap.size w w') : RightPost w kind sub ps (.returned (.bool false)) w' := ⟨false, rfl, h, fun h => by cases h⟩
theorem ba_ne (a b : List UInt8) (h : ¬ ba a = ba b) : ¬ (ba a).toList = (ba b).toList := fun e => h (by rw [ba_toList, ba_toList] at e; rw [e])
/-- Two stretches of a drawn region in the text's order. -/
theorem AnyS.seg2 {P : Program} {w : World} {Q : Exit → Act → World → Prop} {a : Act} {N fuel : Nat} {listed : Array Bool} {lst : List Oper} (s n s' n' : Nat) (hN : N = n + n' + fuel) (h1 : Nat.ble (s + n) lst.length = true) (h2 : Nat.ble (s' + n') lst.length = true) (hB : runB .any lst.toArray (List.range' s n ++ List.range' s' n') listed = true)
    (h0 : StillS P lst.toArray w (fun a' => AnyS P lst.toArray Q fuel (idxOff (List.range' s n ++ List.range' s' n') listed) a' w) ((lst.drop s).take n ++ (lst.drop s').take n') a) : AnyS P lst.toArray Q N listed a w := by
  have := AnyS.run (Q := Q) (List.range' s n ++ List.range' s' n') _ _ hB rfl (by rw [List.map_append, List.map_append, seg_map (Nat.le_of_ble_eq_true h1), seg_map (Nat.le_of_ble_eq_true h2)]) h0
  rw [List.length_append, List.length_range', List.length_range'] at this
  rw [hN]; exact this
def badB (b1 b2 b3 b4 : Bool) (n : Nat) : Bool := !b1 || (!b2 || (!b3 || (!b4 || decide (20 < n))))
set_option maxRecDepth 100000 in
set_option maxHeartbeats 4000000 in
theorem right_any (kind sub : List UInt8) (ps : List (List UInt8 × List UInt8)) (A : Option Addr) (n c : Nat) (w : World) (hP : Pars w w.heap.size A n ps) (hk : kind.length ≤ 1000000000) (hs : sub.length ≤ 1000000000) (hps : ∀ p ∈ ps, p.1.length ≤ 1000000000 ∧ p.2.length ≤ 1000000000) (hT : Tabs w) :
    Calls Tryz.prog 25 #[.agg #[.string (ba kind), .string (ba sub), .slice A n c]] w (RightPost w kind sub ps) := by
  have HWK := Lib.hid (show ∀ W, Calls Tryz.prog 38 #[.string (ba kind)] W fun e w' => e = .returned (.bool (isWord kind)) ∧ Below W.heap.size W w' from fun W => (rword_any kind W hk).mono fun e w' h => ⟨h.1, h.2 ▸ Below.refl _ _⟩)
  have HWS := Lib.hid (show ∀ W, Calls Tryz.prog 38 #[.string (ba sub)] W fun e w' => e = .returned (.bool (isWord sub)) ∧ Below W.heap.size W w' from fun W => (rword_any sub W hs).mono fun e w' h => ⟨h.1, h.2 ▸ Below.refl _ _⟩)
  have HSK := Lib.hid (fun W => rsmall_any kind W hk)
  have HSS := Lib.hid (fun W => rsmall_any sub W hs)
  unfold StrB at HSK HSS
  have hB0 := (Below.refl w.heap.size w).alloc (Nat.le_refl _) (.cells #[.string (ba kind), .string (ba sub), .slice A n c] 26)
  have HT0 := Lib.hid (hT.below hB0)
  have HP0 := Lib.hid ((hP.below hB0).more hB0.size)
  have HPS := Lib.hid hps
  have HN := Lib.hid hP.len
  have HB0 := Lib.hid hB0
  obtain ⟨b1, hb1⟩ : ∃ b, isWord kind = b := ⟨_, rfl⟩
  obtain ⟨b2, hb2⟩ : ∃ b, isWord sub = b := ⟨_, rfl⟩
  have HRT := Lib.hid (show badB b1 b2 (decide (ba (smallP kind) = ba kind)) (decide (ba (smallP sub) = ba sub)) n = false → (∀ p ∈ ps, GoodP p ∧ p.2.length ≤ 2000) → (ps.map (·.1)).Nodup → RightT kind sub ps from fun h hg hd => by
    unfold badB at h
    simp only [Bool.or_eq_false_iff, Bool.not_eq_false', decide_eq_false_iff_not] at h
    obtain ⟨rfl, rfl, h3, h4, h5⟩ := h
    exact ⟨hb1, hb2, ba_inj.1 (of_decide_eq_true h3), ba_inj.1 (of_decide_eq_true h4), by rw [HN.out]; omega, hg, hd⟩)
  simp only [hb1] at HWK
  simp only [hb2] at HWS
  have HNK := Lib.hid (ba_ne (smallP kind) kind)
  have HNS := Lib.hid (ba_ne (smallP sub) sub)
  obtain ⟨k2, hk2⟩ : ∃ q, ba (smallP kind) = q := ⟨_, rfl⟩
  obtain ⟨s2, hs2⟩ : ∃ q, ba (smallP sub) = q := ⟨_, rfl⟩
  simp only [hk2] at HSK HRT HNK
  simp only [hs2] at HSS HRT HNS
  obtain ⟨k, hkk⟩ : ∃ q, ba kind = q := ⟨_, rfl⟩
  obtain ⟨s, hss⟩ : ∃ q, ba sub = q := ⟨_, rfl⟩
  rw [hkk] at HSK HRT HNK HWK HT0 HP0 HB0 ⊢
  rw [hss] at HSS HRT HNS HWS HT0 HP0 HB0 ⊢
  clear hb1 hb2 hk2 hs2 hkk hss hB0 hP hk hs hps hT
  obtain ⟨cb, hcb⟩ : ∃ cb, badB b1 b2 (decide (k2 = k)) (decide (s2 = s)) n = cb := ⟨_, rfl⟩
  have HCBE := Lib.hid hcb
  rw [hcb] at HRT
  clear hcb
  go_enter Tryz.func25, Tryz.ntmps25
  go_wp2
  obtain ⟨W0, hW0⟩ : ∃ W0, w.alloc (.cells #[.string k, .string s, .slice A n c] 26) = W0 := ⟨_, rfl⟩
  have t0 : W0.cell? ⟨w.heap.size, 0, none⟩ = some (.string k) := by subst hW0; go_simp
  have t1 : W0.cell? ⟨w.heap.size, 1, none⟩ = some (.string s) := by subst hW0; go_simp
  have t2 : W0.cell? ⟨w.heap.size, 2, none⟩ = some (.slice A n c) := by subst hW0; go_simp
  have hz0 : w.heap.size < W0.heap.size := by subst hW0; simp
  rw [hW0] at HT0 HP0 HB0 ⊢
  clear hW0
  go_cut [37] from 6 to 37 (fun v wc => v = .bool cb ∧ Hid (RtW W0 w.heap.size k s A n c wc))
  case first =>
    as_aux_lemma =>
      refine wp_region_held_drew (S := fun w' => w'.cell? ⟨w.heap.size, 0, none⟩ = some (.string k) ∧ w'.cell? ⟨w.heap.size, 1, none⟩ = some (.string s) ∧ w'.cell? ⟨w.heap.size, 2, none⟩ = some (.slice A n c)) (by kernel_rfl) ⟨t0, t1, t2⟩ (fun hHeld => ?_)
      refine wpAnyH_take (i := 0) (oi := { dst := some 6, op := Op.fieldAddr 26 (Operand.tmp 1) 0, type := 0, pos := "law.go:66", after := #[], guard := none }) (v := ?_) rfl (by kernel_rfl) (by kernel_rfl) (by kernel_rfl) (fun _ _ _ h => h) (Or.inl ⟨by rfl, ?_⟩) (by assumption) ?_
      rotate_left
      · (intro w9 hSw; (try dsimp only at hSw); go_simp; all_goals with_reducible rfl)
      try simp only [Act.put, List.setIfInBounds_toArray, List.set_cons_zero, List.set_cons_succ]
      refine wpAnyH_take (i := 1) (oi := { dst := some 7, op := Op.load 9 (Operand.tmp 6), type := 9, pos := "law.go:66", after := #[{ on := 0, ground := Ground.data }], guard := none }) (v := ?_) rfl (by kernel_rfl) (by kernel_rfl) (by kernel_rfl) (fun _ _ _ h => h) (Or.inl ⟨by rfl, ?_⟩) (by assumption) ?_
      rotate_left
      · (intro w9 hSw; (try dsimp only at hSw); go_simp; all_goals with_reducible rfl)
      try simp only [Act.put, List.setIfInBounds_toArray, List.set_cons_zero, List.set_cons_succ]
      refine wpAnyH_ready (rs := [2]) (by kernel_rfl) (by simp) ?_
      refine AllReadyH.cons (o := { dst := some 8, op := Op.call { callee := Callee.value (Operand.func 38), args := #[Operand.tmp 7], argTypes := #[9] }, type := 4, pos := "law.go:66", after := #[{ on := 1, ground := Ground.data }], guard := none }) rfl (fun K hK => ?_) AllReadyH.nil
      go_simp
      refine (HWK.out _).mono ?_
      rintro e v1 ⟨rfl, hb⟩
      have HV1 := Lib.hid (show Below W0.heap.size W0 v1 from (show Below W0.heap.size W0 W0.drew from (Below.refl _ _).drew).trans (hb.mono (Nat.le_refl _)))
      have p1a : v1.cell? ⟨w.heap.size, 0, none⟩ = some (.string k) := (HV1.out.cell (p := ⟨w.heap.size, 0, none⟩) hz0).trans t0
      have p1b : v1.cell? ⟨w.heap.size, 1, none⟩ = some (.string s) := (HV1.out.cell (p := ⟨w.heap.size, 1, none⟩) hz0).trans t1
      have p1c : v1.cell? ⟨w.heap.size, 2, none⟩ = some (.slice A n c) := (HV1.out.cell (p := ⟨w.heap.size, 2, none⟩) hz0).trans t2
      clear hb
      refine hK.out _ _ ⟨p1a, p1b, p1c⟩ (fun hHeld1 => ?_)
      clear hK K
      try simp only [Act.put, List.setIfInBounds_toArray, List.set_cons_zero, List.set_cons_succ]
      cases b1
      · have HCB := Lib.hid (show true = cb from HCBE.out)
        refine wpAnyH_take (i := 3) (oi := { dst := some 9, op := Op.unOp UnOp.not 4 (Operand.tmp 8), type := 4, pos := "law.go:66", after := #[{ on := 2, ground := Ground.data }], guard := none }) (v := ?_) rfl (by kernel_rfl) (by kernel_rfl) (by kernel_rfl) (fun _ _ _ h => h) (Or.inl ⟨by rfl, ?_⟩) (by assumption) ?_
        rotate_left
        · (intro w9 hSw; (try dsimp only at hSw); go_simp; all_goals with_reducible rfl)
        try simp only [Act.put, List.setIfInBounds_toArray, List.set_cons_zero, List.set_cons_succ]
        refine wpAnyH_take (i := 4) (oi := { dst := some 10, op := Op.move (Operand.tmp 9), type := 4, pos := "law.go:66", after := #[{ on := 3, ground := Ground.data }, { on := 2, ground := Ground.chain }], guard := none }) (v := ?_) rfl (by kernel_rfl) (by kernel_rfl) (by kernel_rfl) (fun _ _ _ h => h) (Or.inl ⟨by rfl, ?_⟩) (by assumption) ?_
        rotate_left
        · (intro w9 hSw; (try dsimp only at hSw); go_simp; all_goals with_reducible rfl)
        try simp only [Act.put, List.setIfInBounds_toArray, List.set_cons_zero, List.set_cons_succ]
        refine wpAnyH_take (i := 5) (oi := { dst := some 11, op := Op.fieldAddr 26 (Operand.tmp 1) 1, type := 0, pos := "law.go:66", after := #[{ on := 4, ground := Ground.guard }], guard := some (4, false) }) (v := undef) rfl (by kernel_rfl) (by kernel_rfl) (by kernel_rfl) (fun _ _ _ h => h) (Or.inr ⟨by rfl, rfl⟩) (by assumption) ?_
        try simp only [Act.put, List.setIfInBounds_toArray, List.set_cons_zero, List.set_cons_succ]
        refine wpAnyH_take (i := 6) (oi := { dst := some 12, op := Op.load 9 (Operand.tmp 11), type := 9, pos := "law.go:66", after := #[{ on := 5, ground := Ground.data }, { on := 4, ground := Ground.guard }], guard := some (4, false) }) (v := undef) rfl (by kernel_rfl) (by kernel_rfl) (by kernel_rfl) (fun _ _ _ h => h) (Or.inr ⟨by rfl, rfl⟩) (by assumption) ?_
        try simp only [Act.put, List.setIfInBounds_toArray, List.set_cons_zero, List.set_cons_succ]
        refine wpAnyH_take (i := 7) (oi := { dst := some 13, op := Op.call { callee := Callee.value (Operand.func 38), args := #[Operand.tmp 12], argTypes := #[9] }, type := 4, pos := "law.go:66", after := #[{ on := 6, ground := Ground.data }, { on := 4, ground := Ground.chain }, { on := 4, ground := Ground.guard }], guard := some (4, false) }) (v := undef) rfl (by kernel_rfl) (by kernel_rfl) (by kernel_rfl) (fun _ _ _ h => h) (Or.inr ⟨by rfl, rfl⟩) (by assumption) ?_
        try simp only [Act.put, List.setIfInBounds_toArray, List.set_cons_zero, List.set_cons_succ]
        refine wpAnyH_take (i := 8) (oi := { dst := some 14, op := Op.unOp UnOp.not 4 (Operand.tmp 13), type := 4, pos := "law.go:66", after := #[{ on := 7, ground := Ground.data }, { on := 4, ground := Ground.guard }], guard := some (4, false) }) (v := undef) rfl (by kernel_rfl) (by kernel_rfl) (by kernel_rfl) (fun _ _ _ h => h) (Or.inr ⟨by rfl, rfl⟩) (by assumption) ?_
        try simp only [Act.put, List.setIfInBounds_toArray, List.set_cons_zero, List.set_cons_succ]
        refine wpAnyH_take (i := 9) (oi := { dst := some 15, op := Op.pick (Operand.tmp 10) (Operand.const (Value.bool true)) (Operand.tmp 14), type := 4, pos := "law.go:66", after := #[{ on := 4, ground := Ground.data }, { on := 8, ground := Ground.data }], guard := none }) (v := ?_) rfl (by kernel_rfl) (by kernel_rfl) (by kernel_rfl) (fun _ _ _ h => h) (Or.inl ⟨by rfl, ?_⟩) (by assumption) ?_
        rotate_left
        · (intro w9 hSw; (try dsimp only at hSw); go_simp; all_goals with_reducible rfl)
        try simp only [Act.put, List.setIfInBounds_toArray, List.set_cons_zero, List.set_cons_succ]
        refine wpAnyH_take (i := 10) (oi := { dst := some 16, op := Op.move (Operand.tmp 15), type := 4, pos := "law.go:66", after := #[{ on := 9, ground := Ground.data }, { on := 7, ground := Ground.chain }], guard := none }) (v := ?_) rfl (by kernel_rfl) (by kernel_rfl) (by kernel_rfl) (fun _ _ _ h => h) (Or.inl ⟨by rfl, ?_⟩) (by assumption) ?_
        rotate_left
        · (intro w9 hSw; (try dsimp only at hSw); go_simp; all_goals with_reducible rfl)
        try simp only [Act.put, List.setIfInBounds_toArray, List.set_cons_zero, List.set_cons_succ]
        refine wpAnyH_take (i := 11) (oi := { dst := some 17, op := Op.fieldAddr 26 (Operand.tmp 1) 0, type := 0, pos := "law.go:66", after := #[{ on := 10, ground := Ground.guard }], guard := some (10, false) }) (v := undef) rfl (by kernel_rfl) (by kernel_rfl) (by kernel_rfl) (fun _ _ _ h => h) (Or.inr ⟨by rfl, rfl⟩) (by assumption) ?_
        try simp only [Act.put, List.setIfInBounds_toArray, List.set_cons_zero, List.set_cons_succ]
        refine wpAnyH_take (i := 12) (oi := { dst := some 18, op := Op.load 9 (Operand.tmp 17), type := 9, pos := "law.go:66", after := #[{ on := 11, ground := Ground.data }, { on := 10, ground := Ground.guard }], guard := some (10, false) }) (v := undef) rfl (by kernel_rfl) (by kernel_rfl) (by kernel_rfl) (fun _ _ _ h => h) (Or.inr ⟨by rfl, rfl⟩) (by assumption) ?_
        try simp only [Act.put, List.setIfInBounds_toArray, List.set_cons_zero, List.set_cons_succ]
        refine wpAnyH_take (i := 13) (oi := { dst := some 19, op := Op.call { callee := Callee.value (Operand.func 39), args := #[Operand.tmp 18], argTypes := #[9] }, type := 9, pos := "law.go:66", after := #[{ on := 12, ground := Ground.data }, { on := 10, ground := Ground.chain }, { on := 10, ground := Ground.guard }], guard := some (10, false) }) (v := undef) rfl (by kernel_rfl) (by kernel_rfl) (by kernel_rfl) (fun _ _ _ h => h) (Or.inr ⟨by rfl, rfl⟩) (by assumption) ?_
        try simp only [Act.put, List.setIfInBounds_toArray, List.set_cons_zero, List.set_cons_succ]
        refine wpAnyH_take (i := 14) (oi := { dst := some 20, op := Op.fieldAddr 26 (Operand.tmp 1) 0, type := 0, pos := "law.go:66", after := #[{ on := 10, ground := Ground.guard }], guard := some (10, false) }) (v := undef) rfl (by kernel_rfl) (by kernel_rfl) (by kernel_rfl) (fun _ _ _ h => h) (Or.inr ⟨by rfl, rfl⟩) (by assumption) ?_
        try simp only [Act.put, List.setIfInBounds_toArray, List.set_cons_zero, List.set_cons_succ]
        refine wpAnyH_take (i := 15) (oi := { dst := some 21, op := Op.load 9 (Operand.tmp 20), type := 9, pos := "law.go:66", after := #[{ on := 14, ground := Ground.data }, { on := 10, ground := Ground.guard }], guard := some (10, false) }) (v := undef) rfl (by kernel_rfl) (by kernel_rfl) (by kernel_rfl) (fun _ _ _ h => h) (Or.inr ⟨by rfl, rfl⟩) (by assumption) ?_
        try simp only [Act.put, List.setIfInBounds_toArray, List.set_cons_zero, List.set_cons_succ]
        refine wpAnyH_take (i := 16) (oi := { dst := some 22, op := Op.binOp BinOp.neq 9 (Operand.tmp 19) (Operand.tmp 21) 9, type := 4, pos := "law.go:66", after := #[{ on := 13, ground := Ground.data }, { on := 15, ground := Ground.data }, { on := 10, ground := Ground.guard }], guard := some (10, false) }) (v := undef) rfl (by kernel_rfl) (by kernel_rfl) (by kernel_rfl) (fun _ _ _ h => h) (Or.inr ⟨by rfl, rfl⟩) (by assumption) ?_
        try simp only [Act.put, List.setIfInBounds_toArray, List.set_cons_zero, List.set_cons_succ]
        refine wpAnyH_take (i := 17) (oi := { dst := some 23, op := Op.pick (Operand.tmp 16) (Operand.const (Value.bool true)) (Operand.tmp 22), type := 4, pos := "law.go:66", after := #[{ on := 10, ground := Ground.data }, { on := 16, ground := Ground.data }], guard := none }) (v := ?_) rfl (by kernel_rfl) (by kernel_rfl) (by kernel_rfl) (fun _ _ _ h => h) (Or.inl ⟨by rfl, ?_⟩) (by assumption) ?_
        rotate_left
        · (intro w9 hSw; (try dsimp only at hSw); go_simp; all_goals with_reducible rfl)
        try simp only [Act.put, List.setIfInBounds_toArray, List.set_cons_zero, List.set_cons_succ]
        refine wpAnyH_take (i := 18) (oi := { dst := some 24, op := Op.move (Operand.tmp 23), type := 4, pos := "law.go:66", after := #[{ on := 17, ground := Ground.data }, { on := 13, ground := Ground.chain }], guard := none }) (v := ?_) rfl (by kernel_rfl) (by kernel_rfl) (by kernel_rfl) (fun _ _ _ h => h) (Or.inl ⟨by rfl, ?_⟩) (by assumption) ?_
        rotate_left
        · (intro w9 hSw; (try dsimp only at hSw); go_simp; all_goals with_reducible rfl)
        try simp only [Act.put, List.setIfInBounds_toArray, List.set_cons_zero, List.set_cons_succ]
        refine wpAnyH_take (i := 19) (oi := { dst := some 25, op := Op.fieldAddr 26 (Operand.tmp 1) 1, type := 0, pos := "law.go:66", after := #[{ on := 18, ground := Ground.guard }], guard := some (18, false) }) (v := undef) rfl (by kernel_rfl) (by kernel_rfl) (by kernel_rfl) (fun _ _ _ h => h) (Or.inr ⟨by rfl, rfl⟩) (by assumption) ?_
        try simp only [Act.put, List.setIfInBounds_toArray, List.set_cons_zero, List.set_cons_succ]
        refine wpAnyH_take (i := 20) (oi := { dst := some 26, op := Op.load 9 (Operand.tmp 25), type := 9, pos := "law.go:66", after := #[{ on := 19, ground := Ground.data }, { on := 18, ground := Ground.guard }], guard := some (18, false) }) (v := undef) rfl (by kernel_rfl) (by kernel_rfl) (by kernel_rfl) (fun _ _ _ h => h) (Or.inr ⟨by rfl, rfl⟩) (by assumption) ?_
        try simp only [Act.put, List.setIfInBounds_toArray, List.set_cons_zero, List.set_cons_succ]
        refine wpAnyH_take (i := 21) (oi := { dst := some 27, op := Op.call { callee := Callee.value (Operand.func 39), args := #[Operand.tmp 26], argTypes := #[9] }, type := 9, pos := "law.go:66", after := #[{ on := 20, ground := Ground.data }, { on := 18, ground := Ground.chain }, { on := 18, ground := Ground.guard }], guard := some (18, false) }) (v := undef) rfl (by kernel_rfl) (by kernel_rfl) (by kernel_rfl) (fun _ _ _ h => h) (Or.inr ⟨by rfl, rfl⟩) (by assumption) ?_
        try simp only [Act.put, List.setIfInBounds_toArray, List.set_cons_zero, List.set_cons_succ]
        refine wpAnyH_take (i := 22) (oi := { dst := some 28, op := Op.fieldAddr 26 (Operand.tmp 1) 1, type := 0, pos := "law.go:66", after := #[{ on := 18, ground := Ground.guard }], guard := some (18, false) }) (v := undef) rfl (by kernel_rfl) (by kernel_rfl) (by kernel_rfl) (fun _ _ _ h => h) (Or.inr ⟨by rfl, rfl⟩) (by assumption) ?_
        try simp only [Act.put, List.setIfInBounds_toArray, List.set_cons_zero, List.set_cons_succ]
        refine wpAnyH_take (i := 23) (oi := { dst := some 29, op := Op.load 9 (Operand.tmp 28), type := 9, pos := "law.go:66", after := #[{ on := 22, ground := Ground.data }, { on := 18, ground := Ground.guard }], guard := some (18, false) }) (v := undef) rfl (by kernel_rfl) (by kernel_rfl) (by kernel_rfl) (fun _ _ _ h => h) (Or.inr ⟨by rfl, rfl⟩) (by assumption) ?_
        try simp only [Act.put, List.setIfInBounds_toArray, List.set_cons_zero, List.set_cons_succ]
        refine wpAnyH_take (i := 24) (oi := { dst := some 30, op := Op.binOp BinOp.neq 9 (Operand.tmp 27) (Operand.tmp 29) 9, type := 4, pos := "law.go:66", after := #[{ on := 21, ground := Ground.data }, { on := 23, ground := Ground.data }, { on := 18, ground := Ground.guard }], guard := some (18, false) }) (v := undef) rfl (by kernel_rfl) (by kernel_rfl) (by kernel_rfl) (fun _ _ _ h => h) (Or.inr ⟨by rfl, rfl⟩) (by assumption) ?_
        try simp only [Act.put, List.setIfInBounds_toArray, List.set_cons_zero, List.set_cons_succ]
        refine wpAnyH_take (i := 25) (oi := { dst := some 31, op := Op.pick (Operand.tmp 24) (Operand.const (Value.bool true)) (Operand.tmp 30), type := 4, pos := "law.go:66", after := #[{ on := 18, ground := Ground.data }, { on := 24, ground := Ground.data }], guard := none }) (v := ?_) rfl (by kernel_rfl) (by kernel_rfl) (by kernel_rfl) (fun _ _ _ h => h) (Or.inl ⟨by rfl, ?_⟩) (by assumption) ?_
        rotate_left
        · (intro w9 hSw; (try dsimp only at hSw); go_simp; all_goals with_reducible rfl)
        try simp only [Act.put, List.setIfInBounds_toArray, List.set_cons_zero, List.set_cons_succ]
        refine wpAnyH_take (i := 26) (oi := { dst := some 32, op := Op.move (Operand.tmp 31), type := 4, pos := "law.go:66", after := #[{ on := 25, ground := Ground.data }, { on := 21, ground := Ground.chain }], guard := none }) (v := ?_) rfl (by kernel_rfl) (by kernel_rfl) (by kernel_rfl) (fun _ _ _ h => h) (Or.inl ⟨by rfl, ?_⟩) (by assumption) ?_
        rotate_left
        · (intro w9 hSw; (try dsimp only at hSw); go_simp; all_goals with_reducible rfl)
        try simp only [Act.put, List.setIfInBounds_toArray, List.set_cons_zero, List.set_cons_succ]
        refine wpAnyH_take (i := 27) (oi := { dst := some 33, op := Op.fieldAddr 26 (Operand.tmp 1) 2, type := 0, pos := "law.go:66", after := #[{ on := 26, ground := Ground.guard }], guard := some (26, false) }) (v := undef) rfl (by kernel_rfl) (by kernel_rfl) (by kernel_rfl) (fun _ _ _ h => h) (Or.inr ⟨by rfl, rfl⟩) (by assumption) ?_
        try simp only [Act.put, List.setIfInBounds_toArray, List.set_cons_zero, List.set_cons_succ]
        refine wpAnyH_take (i := 28) (oi := { dst := some 34, op := Op.load 24 (Operand.tmp 33), type := 24, pos := "law.go:66", after := #[{ on := 27, ground := Ground.data }, { on := 26, ground := Ground.guard }], guard := some (26, false) }) (v := undef) rfl (by kernel_rfl) (by kernel_rfl) (by kernel_rfl) (fun _ _ _ h => h) (Or.inr ⟨by rfl, rfl⟩) (by assumption) ?_
        try simp only [Act.put, List.setIfInBounds_toArray, List.set_cons_zero, List.set_cons_succ]
        refine wpAnyH_take (i := 29) (oi := { dst := some 35, op := Op.call { callee := Callee.builtin Builtin.len, args := #[Operand.tmp 34], argTypes := #[24] }, type := 3, pos := "law.go:66", after := #[{ on := 28, ground := Ground.data }, { on := 26, ground := Ground.guard }], guard := some (26, false) }) (v := undef) rfl (by kernel_rfl) (by kernel_rfl) (by kernel_rfl) (fun _ _ _ h => h) (Or.inr ⟨by rfl, rfl⟩) (by assumption) ?_
        try simp only [Act.put, List.setIfInBounds_toArray, List.set_cons_zero, List.set_cons_succ]
        refine wpAnyH_take (i := 30) (oi := { dst := some 36, op := Op.binOp BinOp.gtr 3 (Operand.tmp 35) (Operand.const (Value.int IntKind.i64 20)) 3, type := 4, pos := "law.go:66", after := #[{ on := 29, ground := Ground.data }, { on := 26, ground := Ground.guard }], guard := some (26, false) }) (v := undef) rfl (by kernel_rfl) (by kernel_rfl) (by kernel_rfl) (fun _ _ _ h => h) (Or.inr ⟨by rfl, rfl⟩) (by assumption) ?_
        try simp only [Act.put, List.setIfInBounds_toArray, List.set_cons_zero, List.set_cons_succ]
        refine wpAnyH_take (i := 31) (oi := { dst := some 37, op := Op.pick (Operand.tmp 32) (Operand.const (Value.bool true)) (Operand.tmp 36), type := 4, pos := "law.go:66", after := #[{ on := 26, ground := Ground.data }, { on := 30, ground := Ground.data }], guard := none }) (v := ?_) rfl (by kernel_rfl) (by kernel_rfl) (by kernel_rfl) (fun _ _ _ h => h) (Or.inl ⟨by rfl, ?_⟩) (by assumption) ?_
        rotate_left
        · (intro w9 hSw; (try dsimp only at hSw); go_simp; all_goals with_reducible rfl)
        try simp only [Act.put, List.setIfInBounds_toArray, List.set_cons_zero, List.set_cons_succ]
        refine wpAnyH_done (by kernel_rfl) ?_ _
        go_wp2
        go_meet
        case rel => exact ⟨by rw [← HCB.out], Lib.hid ⟨HV1.out, p1a, p1b, p1c⟩⟩
      · refine wpAnyH_take (i := 3) (oi := { dst := some 9, op := Op.unOp UnOp.not 4 (Operand.tmp 8), type := 4, pos := "law.go:66", after := #[{ on := 2, ground := Ground.data }], guard := none }) (v := ?_) rfl (by kernel_rfl) (by kernel_rfl) (by kernel_rfl) (fun _ _ _ h => h) (Or.inl ⟨by rfl, ?_⟩) (by assumption) ?_
        rotate_left
        · (intro w9 hSw; (try dsimp only at hSw); go_simp; all_goals with_reducible rfl)
        try simp only [Act.put, List.setIfInBounds_toArray, List.set_cons_zero, List.set_cons_succ]
        refine wpAnyH_take (i := 4) (oi := { dst := some 10, op := Op.move (Operand.tmp 9), type := 4, pos := "law.go:66", after := #[{ on := 3, ground := Ground.data }, { on := 2, ground := Ground.chain }], guard := none }) (v := ?_) rfl (by kernel_rfl) (by kernel_rfl) (by kernel_rfl) (fun _ _ _ h => h) (Or.inl ⟨by rfl, ?_⟩) (by assumption) ?_
        rotate_left
        · (intro w9 hSw; (try dsimp only at hSw); go_simp; all_goals with_reducible rfl)
        try simp only [Act.put, List.setIfInBounds_toArray, List.set_cons_zero, List.set_cons_succ]
        refine wpAnyH_take (i := 5) (oi := { dst := some 11, op := Op.fieldAddr 26 (Operand.tmp 1) 1, type := 0, pos := "law.go:66", after := #[{ on := 4, ground := Ground.guard }], guard := some (4, false) }) (v := ?_) rfl (by kernel_rfl) (by kernel_rfl) (by kernel_rfl) (fun _ _ _ h => h) (Or.inl ⟨by rfl, ?_⟩) (by assumption) ?_
        rotate_left
        · (intro w9 hSw; (try dsimp only at hSw); go_simp; all_goals with_reducible rfl)
        try simp only [Act.put, List.setIfInBounds_toArray, List.set_cons_zero, List.set_cons_succ]
        refine wpAnyH_take (i := 6) (oi := { dst := some 12, op := Op.load 9 (Operand.tmp 11), type := 9, pos := "law.go:66", after := #[{ on := 5, ground := Ground.data }, { on := 4, ground := Ground.guard }], guard := some (4, false) }) (v := ?_) rfl (by kernel_rfl) (by kernel_rfl) (by kernel_rfl) (fun _ _ _ h => h) (Or.inl ⟨by rfl, ?_⟩) (by assumption) ?_
        rotate_left
        · (intro w9 hSw; (try dsimp only at hSw); go_simp; all_goals with_reducible rfl)
        try simp only [Act.put, List.setIfInBounds_toArray, List.set_cons_zero, List.set_cons_succ]
        refine wpAnyH_ready (rs := [7]) (by kernel_rfl) (by simp) ?_
        refine AllReadyH.cons (o := { dst := some 13, op := Op.call { callee := Callee.value (Operand.func 38), args := #[Operand.tmp 12], argTypes := #[9] }, type := 4, pos := "law.go:66", after := #[{ on := 6, ground := Ground.data }, { on := 4, ground := Ground.chain }, { on := 4, ground := Ground.guard }], guard := some (4, false) }) rfl (fun K hK => ?_) AllReadyH.nil
        go_simp
        refine (HWS.out _).mono ?_
        rintro e v2 ⟨rfl, hb⟩
        have HV2 := Lib.hid (show Below W0.heap.size W0 v2 from HV1.out.trans (hb.mono HV1.out.size))
        have p2a : v2.cell? ⟨w.heap.size, 0, none⟩ = some (.string k) := (HV2.out.cell (p := ⟨w.heap.size, 0, none⟩) hz0).trans t0
        have p2b : v2.cell? ⟨w.heap.size, 1, none⟩ = some (.string s) := (HV2.out.cell (p := ⟨w.heap.size, 1, none⟩) hz0).trans t1
        have p2c : v2.cell? ⟨w.heap.size, 2, none⟩ = some (.slice A n c) := (HV2.out.cell (p := ⟨w.heap.size, 2, none⟩) hz0).trans t2
        clear hb
        refine hK.out _ _ ⟨p2a, p2b, p2c⟩ (fun hHeld2 => ?_)
        clear hK K
        try simp only [Act.put, List.setIfInBounds_toArray, List.set_cons_zero, List.set_cons_succ]
        cases b2
        · have HCB := Lib.hid (show true = cb from HCBE.out)
          refine wpAnyH_take (i := 8) (oi := { dst := some 14, op := Op.unOp UnOp.not 4 (Operand.tmp 13), type := 4, pos := "law.go:66", after := #[{ on := 7, ground := Ground.data }, { on := 4, ground := Ground.guard }], guard := some (4, false) }) (v := ?_) rfl (by kernel_rfl) (by kernel_rfl) (by kernel_rfl) (fun _ _ _ h => h) (Or.inl ⟨by rfl, ?_⟩) (by assumption) ?_
          rotate_left
          · (intro w9 hSw; (try dsimp only at hSw); go_simp; all_goals with_reducible rfl)
          try simp only [Act.put, List.setIfInBounds_toArray, List.set_cons_zero, List.set_cons_succ]
          refine wpAnyH_take (i := 9) (oi := { dst := some 15, op := Op.pick (Operand.tmp 10) (Operand.const (Value.bool true)) (Operand.tmp 14), type := 4, pos := "law.go:66", after := #[{ on := 4, ground := Ground.data }, { on := 8, ground := Ground.data }], guard := none }) (v := ?_) rfl (by kernel_rfl) (by kernel_rfl) (by kernel_rfl) (fun _ _ _ h => h) (Or.inl ⟨by rfl, ?_⟩) (by assumption) ?_
          rotate_left
          · (intro w9 hSw; (try dsimp only at hSw); go_simp; all_goals with_reducible rfl)
          try simp only [Act.put, List.setIfInBounds_toArray, List.set_cons_zero, List.set_cons_succ]
          refine wpAnyH_take (i := 10) (oi := { dst := some 16, op := Op.move (Operand.tmp 15), type := 4, pos := "law.go:66", after := #[{ on := 9, ground := Ground.data }, { on := 7, ground := Ground.chain }], guard := none }) (v := ?_) rfl (by kernel_rfl) (by kernel_rfl) (by kernel_rfl) (fun _ _ _ h => h) (Or.inl ⟨by rfl, ?_⟩) (by assumption) ?_
          rotate_left
          · (intro w9 hSw; (try dsimp only at hSw); go_simp; all_goals with_reducible rfl)
          try simp only [Act.put, List.setIfInBounds_toArray, List.set_cons_zero, List.set_cons_succ]
          refine wpAnyH_take (i := 11) (oi := { dst := some 17, op := Op.fieldAddr 26 (Operand.tmp 1) 0, type := 0, pos := "law.go:66", after := #[{ on := 10, ground := Ground.guard }], guard := some (10, false) }) (v := undef) rfl (by kernel_rfl) (by kernel_rfl) (by kernel_rfl) (fun _ _ _ h => h) (Or.inr ⟨by rfl, rfl⟩) (by assumption) ?_
          try simp only [Act.put, List.setIfInBounds_toArray, List.set_cons_zero, List.set_cons_succ]
          refine wpAnyH_take (i := 12) (oi := { dst := some 18, op := Op.load 9 (Operand.tmp 17), type := 9, pos := "law.go:66", after := #[{ on := 11, ground := Ground.data }, { on := 10, ground := Ground.guard }], guard := some (10, false) }) (v := undef) rfl (by kernel_rfl) (by kernel_rfl) (by kernel_rfl) (fun _ _ _ h => h) (Or.inr ⟨by rfl, rfl⟩) (by assumption) ?_
          try simp only [Act.put, List.setIfInBounds_toArray, List.set_cons_zero, List.set_cons_succ]
          refine wpAnyH_take (i := 13) (oi := { dst := some 19, op := Op.call { callee := Callee.value (Operand.func 39), args := #[Operand.tmp 18], argTypes := #[9] }, type := 9, pos := "law.go:66", after := #[{ on := 12, ground := Ground.data }, { on := 10, ground := Ground.chain }, { on := 10, ground := Ground.guard }], guard := some (10, false) }) (v := undef) rfl (by kernel_rfl) (by kernel_rfl) (by kernel_rfl) (fun _ _ _ h => h) (Or.inr ⟨by rfl, rfl⟩) (by assumption) ?_
          try simp only [Act.put, List.setIfInBounds_toArray, List.set_cons_zero, List.set_cons_succ]
          refine wpAnyH_take (i := 14) (oi := { dst := some 20, op := Op.fieldAddr 26 (Operand.tmp 1) 0, type := 0, pos := "law.go:66", after := #[{ on := 10, ground := Ground.guard }], guard := some (10, false) }) (v := undef) rfl (by kernel_rfl) (by kernel_rfl) (by kernel_rfl) (fun _ _ _ h => h) (Or.inr ⟨by rfl, rfl⟩) (by assumption) ?_
          try simp only [Act.put, List.setIfInBounds_toArray, List.set_cons_zero, List.set_cons_succ]
          refine wpAnyH_take (i := 15) (oi := { dst := some 21, op := Op.load 9 (Operand.tmp 20), type := 9, pos := "law.go:66", after := #[{ on := 14, ground := Ground.data }, { on := 10, ground := Ground.guard }], guard := some (10, false) }) (v := undef) rfl (by kernel_rfl) (by kernel_rfl) (by kernel_rfl) (fun _ _ _ h => h) (Or.inr ⟨by rfl, rfl⟩) (by assumption) ?_
          try simp only [Act.put, List.setIfInBounds_toArray, List.set_cons_zero, List.set_cons_succ]
          refine wpAnyH_take (i := 16) (oi := { dst := some 22, op := Op.binOp BinOp.neq 9 (Operand.tmp 19) (Operand.tmp 21) 9, type := 4, pos := "law.go:66", after := #[{ on := 13, ground := Ground.data }, { on := 15, ground := Ground.data }, { on := 10, ground := Ground.guard }], guard := some (10, false) }) (v := undef) rfl (by kernel_rfl) (by kernel_rfl) (by kernel_rfl) (fun _ _ _ h => h) (Or.inr ⟨by rfl, rfl⟩) (by assumption) ?_
          try simp only [Act.put, List.setIfInBounds_toArray, List.set_cons_zero, List.set_cons_succ]
          refine wpAnyH_take (i := 17) (oi := { dst := some 23, op := Op.pick (Operand.tmp 16) (Operand.const (Value.bool true)) (Operand.tmp 22), type := 4, pos := "law.go:66", after := #[{ on := 10, ground := Ground.data }, { on := 16, ground := Ground.data }], guard := none }) (v := ?_) rfl (by kernel_rfl) (by kernel_rfl) (by kernel_rfl) (fun _ _ _ h => h) (Or.inl ⟨by rfl, ?_⟩) (by assumption) ?_
          rotate_left
          · (intro w9 hSw; (try dsimp only at hSw); go_simp; all_goals with_reducible rfl)
          try simp only [Act.put, List.setIfInBounds_toArray, List.set_cons_zero, List.set_cons_succ]
          refine wpAnyH_take (i := 18) (oi := { dst := some 24, op := Op.move (Operand.tmp 23), type := 4, pos := "law.go:66", after := #[{ on := 17, ground := Ground.data }, { on := 13, ground := Ground.chain }], guard := none }) (v := ?_) rfl (by kernel_rfl) (by kernel_rfl) (by kernel_rfl) (fun _ _ _ h => h) (Or.inl ⟨by rfl, ?_⟩) (by assumption) ?_
          rotate_left
          · (intro w9 hSw; (try dsimp only at hSw); go_simp; all_goals with_reducible rfl)
          try simp only [Act.put, List.setIfInBounds_toArray, List.set_cons_zero, List.set_cons_succ]
          refine wpAnyH_take (i := 19) (oi := { dst := some 25, op := Op.fieldAddr 26 (Operand.tmp 1) 1, type := 0, pos := "law.go:66", after := #[{ on := 18, ground := Ground.guard }], guard := some (18, false) }) (v := undef) rfl (by kernel_rfl) (by kernel_rfl) (by kernel_rfl) (fun _ _ _ h => h) (Or.inr ⟨by rfl, rfl⟩) (by assumption) ?_
          try simp only [Act.put, List.setIfInBounds_toArray, List.set_cons_zero, List.set_cons_succ]
          refine wpAnyH_take (i := 20) (oi := { dst := some 26, op := Op.load 9 (Operand.tmp 25), type := 9, pos := "law.go:66", after := #[{ on := 19, ground := Ground.data }, { on := 18, ground := Ground.guard }], guard := some (18, false) }) (v := undef) rfl (by kernel_rfl) (by kernel_rfl) (by kernel_rfl) (fun _ _ _ h => h) (Or.inr ⟨by rfl, rfl⟩) (by assumption) ?_
          try simp only [Act.put, List.setIfInBounds_toArray, List.set_cons_zero, List.set_cons_succ]
          refine wpAnyH_take (i := 21) (oi := { dst := some 27, op := Op.call { callee := Callee.value (Operand.func 39), args := #[Operand.tmp 26], argTypes := #[9] }, type := 9, pos := "law.go:66", after := #[{ on := 20, ground := Ground.data }, { on := 18, ground := Ground.chain }, { on := 18, ground := Ground.guard }], guard := some (18, false) }) (v := undef) rfl (by kernel_rfl) (by kernel_rfl) (by kernel_rfl) (fun _ _ _ h => h) (Or.inr ⟨by rfl, rfl⟩) (by assumption) ?_
          try simp only [Act.put, List.setIfInBounds_toArray, List.set_cons_zero, List.set_cons_succ]
          refine wpAnyH_take (i := 22) (oi := { dst := some 28, op := Op.fieldAddr 26 (Operand.tmp 1) 1, type := 0, pos := "law.go:66", after := #[{ on := 18, ground := Ground.guard }], guard := some (18, false) }) (v := undef) rfl (by kernel_rfl) (by kernel_rfl) (by kernel_rfl) (fun _ _ _ h => h) (Or.inr ⟨by rfl, rfl⟩) (by assumption) ?_
          try simp only [Act.put, List.setIfInBounds_toArray, List.set_cons_zero, List.set_cons_succ]
          refine wpAnyH_take (i := 23) (oi := { dst := some 29, op := Op.load 9 (Operand.tmp 28), type := 9, pos := "law.go:66", after := #[{ on := 22, ground := Ground.data }, { on := 18, ground := Ground.guard }], guard := some (18, false) }) (v := undef) rfl (by kernel_rfl) (by kernel_rfl) (by kernel_rfl) (fun _ _ _ h => h) (Or.inr ⟨by rfl, rfl⟩) (by assumption) ?_
          try simp only [Act.put, List.setIfInBounds_toArray, List.set_cons_zero, List.set_cons_succ]
          refine wpAnyH_take (i := 24) (oi := { dst := some 30, op := Op.binOp BinOp.neq 9 (Operand.tmp 27) (Operand.tmp 29) 9, type := 4, pos := "law.go:66", after := #[{ on := 21, ground := Ground.data }, { on := 23, ground := Ground.data }, { on := 18, ground := Ground.guard }], guard := some (18, false) }) (v := undef) rfl (by kernel_rfl) (by kernel_rfl) (by kernel_rfl) (fun _ _ _ h => h) (Or.inr ⟨by rfl, rfl⟩) (by assumption) ?_
          try simp only [Act.put, List.setIfInBounds_toArray, List.set_cons_zero, List.set_cons_succ]
          refine wpAnyH_take (i := 25) (oi := { dst := some 31, op := Op.pick (Operand.tmp 24) (Operand.const (Value.bool true)) (Operand.tmp 30), type := 4, pos := "law.go:66", after := #[{ on := 18, ground := Ground.data }, { on := 24, ground := Ground.data }], guard := none }) (v := ?_) rfl (by kernel_rfl) (by kernel_rfl) (by kernel_rfl) (fun _ _ _ h => h) (Or.inl ⟨by rfl, ?_⟩) (by assumption) ?_
          rotate_left
          · (intro w9 hSw; (try dsimp only at hSw); go_simp; all_goals with_reducible rfl)
          try simp only [Act.put, List.setIfInBounds_toArray, List.set_cons_zero, List.set_cons_succ]
          refine wpAnyH_take (i := 26) (oi := { dst := some 32, op := Op.move (Operand.tmp 31), type := 4, pos := "law.go:66", after := #[{ on := 25, ground := Ground.data }, { on := 21, ground := Ground.chain }], guard := none }) (v := ?_) rfl (by kernel_rfl) (by kernel_rfl) (by kernel_rfl) (fun _ _ _ h => h) (Or.inl ⟨by rfl, ?_⟩) (by assumption) ?_
          rotate_left
          · (intro w9 hSw; (try dsimp only at hSw); go_simp; all_goals with_reducible rfl)
          try simp only [Act.put, List.setIfInBounds_toArray, List.set_cons_zero, List.set_cons_succ]
          refine wpAnyH_take (i := 27) (oi := { dst := some 33, op := Op.fieldAddr 26 (Operand.tmp 1) 2, type := 0, pos := "law.go:66", after := #[{ on := 26, ground := Ground.guard }], guard := some (26, false) }) (v := undef) rfl (by kernel_rfl) (by kernel_rfl) (by kernel_rfl) (fun _ _ _ h => h) (Or.inr ⟨by rfl, rfl⟩) (by assumption) ?_
          try simp only [Act.put, List.setIfInBounds_toArray, List.set_cons_zero, List.set_cons_succ]
          refine wpAnyH_take (i := 28) (oi := { dst := some 34, op := Op.load 24 (Operand.tmp 33), type := 24, pos := "law.go:66", after := #[{ on := 27, ground := Ground.data }, { on := 26, ground := Ground.guard }], guard := some (26, false) }) (v := undef) rfl (by kernel_rfl) (by kernel_rfl) (by kernel_rfl) (fun _ _ _ h => h) (Or.inr ⟨by rfl, rfl⟩) (by assumption) ?_
          try simp only [Act.put, List.setIfInBounds_toArray, List.set_cons_zero, List.set_cons_succ]
          refine wpAnyH_take (i := 29) (oi := { dst := some 35, op := Op.call { callee := Callee.builtin Builtin.len, args := #[Operand.tmp 34], argTypes := #[24] }, type := 3, pos := "law.go:66", after := #[{ on := 28, ground := Ground.data }, { on := 26, ground := Ground.guard }], guard := some (26, false) }) (v := undef) rfl (by kernel_rfl) (by kernel_rfl) (by kernel_rfl) (fun _ _ _ h => h) (Or.inr ⟨by rfl, rfl⟩) (by assumption) ?_
          try simp only [Act.put, List.setIfInBounds_toArray, List.set_cons_zero, List.set_cons_succ]
          refine wpAnyH_take (i := 30) (oi := { dst := some 36, op := Op.binOp BinOp.gtr 3 (Operand.tmp 35) (Operand.const (Value.int IntKind.i64 20)) 3, type := 4, pos := "law.go:66", after := #[{ on := 29, ground := Ground.data }, { on := 26, ground := Ground.guard }], guard := some (26, false) }) (v := undef) rfl (by kernel_rfl) (by kernel_rfl) (by kernel_rfl) (fun _ _ _ h => h) (Or.inr ⟨by rfl, rfl⟩) (by assumption) ?_
          try simp only [Act.put, List.setIfInBounds_toArray, List.set_cons_zero, List.set_cons_succ]
          refine wpAnyH_take (i := 31) (oi := { dst := some 37, op := Op.pick (Operand.tmp 32) (Operand.const (Value.bool true)) (Operand.tmp 36), type := 4, pos := "law.go:66", after := #[{ on := 26, ground := Ground.data }, { on := 30, ground := Ground.data }], guard := none }) (v := ?_) rfl (by kernel_rfl) (by kernel_rfl) (by kernel_rfl) (fun _ _ _ h => h) (Or.inl ⟨by rfl, ?_⟩) (by assumption) ?_
          rotate_left
          · (intro w9 hSw; (try dsimp only at hSw); go_simp; all_goals with_reducible rfl)
          try simp only [Act.put, List.setIfInBounds_toArray, List.set_cons_zero, List.set_cons_succ]
          refine wpAnyH_done (by kernel_rfl) ?_ _
          go_wp2
          go_meet
          case rel => exact ⟨by rw [← HCB.out], Lib.hid ⟨HV2.out, p2a, p2b, p2c⟩⟩
        · refine wpAnyH_take (i := 8) (oi := { dst := some 14, op := Op.unOp UnOp.not 4 (Operand.tmp 13), type := 4, pos := "law.go:66", after := #[{ on := 7, ground := Ground.data }, { on := 4, ground := Ground.guard }], guard := some (4, false) }) (v := ?_) rfl (by kernel_rfl) (by kernel_rfl) (by kernel_rfl) (fun _ _ _ h => h) (Or.inl ⟨by rfl, ?_⟩) (by assumption) ?_
          rotate_left
          · (intro w9 hSw; (try dsimp only at hSw); go_simp; all_goals with_reducible rfl)
          try simp only [Act.put, List.setIfInBounds_toArray, List.set_cons_zero, List.set_cons_succ]
          refine wpAnyH_take (i := 9) (oi := { dst := some 15, op := Op.pick (Operand.tmp 10) (Operand.const (Value.bool true)) (Operand.tmp 14), type := 4, pos := "law.go:66", after := #[{ on := 4, ground := Ground.data }, { on := 8, ground := Ground.data }], guard := none }) (v := ?_) rfl (by kernel_rfl) (by kernel_rfl) (by kernel_rfl) (fun _ _ _ h => h) (Or.inl ⟨by rfl, ?_⟩) (by assumption) ?_
          rotate_left
          · (intro w9 hSw; (try dsimp only at hSw); go_simp; all_goals with_reducible rfl)
          try simp only [Act.put, List.setIfInBounds_toArray, List.set_cons_zero, List.set_cons_succ]
          refine wpAnyH_take (i := 10) (oi := { dst := some 16, op := Op.move (Operand.tmp 15), type := 4, pos := "law.go:66", after := #[{ on := 9, ground := Ground.data }, { on := 7, ground := Ground.chain }], guard := none }) (v := ?_) rfl (by kernel_rfl) (by kernel_rfl) (by kernel_rfl) (fun _ _ _ h => h) (Or.inl ⟨by rfl, ?_⟩) (by assumption) ?_
          rotate_left
          · (intro w9 hSw; (try dsimp only at hSw); go_simp; all_goals with_reducible rfl)
          try simp only [Act.put, List.setIfInBounds_toArray, List.set_cons_zero, List.set_cons_succ]
          refine wpAnyH_take (i := 11) (oi := { dst := some 17, op := Op.fieldAddr 26 (Operand.tmp 1) 0, type := 0, pos := "law.go:66", after := #[{ on := 10, ground := Ground.guard }], guard := some (10, false) }) (v := ?_) rfl (by kernel_rfl) (by kernel_rfl) (by kernel_rfl) (fun _ _ _ h => h) (Or.inl ⟨by rfl, ?_⟩) (by assumption) ?_
          rotate_left
          · (intro w9 hSw; (try dsimp only at hSw); go_simp; all_goals with_reducible rfl)
          try simp only [Act.put, List.setIfInBounds_toArray, List.set_cons_zero, List.set_cons_succ]
          refine wpAnyH_take (i := 12) (oi := { dst := some 18, op := Op.load 9 (Operand.tmp 17), type := 9, pos := "law.go:66", after := #[{ on := 11, ground := Ground.data }, { on := 10, ground := Ground.guard }], guard := some (10, false) }) (v := ?_) rfl (by kernel_rfl) (by kernel_rfl) (by kernel_rfl) (fun _ _ _ h => h) (Or.inl ⟨by rfl, ?_⟩) (by assumption) ?_
          rotate_left
          · (intro w9 hSw; (try dsimp only at hSw); go_simp; all_goals with_reducible rfl)
          try simp only [Act.put, List.setIfInBounds_toArray, List.set_cons_zero, List.set_cons_succ]
          refine wpAnyH_take (i := 14) (oi := { dst := some 20, op := Op.fieldAddr 26 (Operand.tmp 1) 0, type := 0, pos := "law.go:66", after := #[{ on := 10, ground := Ground.guard }], guard := some (10, false) }) (v := ?_) rfl (by kernel_rfl) (by kernel_rfl) (by kernel_rfl) (fun _ _ _ h => h) (Or.inl ⟨by rfl, ?_⟩) (by assumption) ?_
          rotate_left
          · (intro w9 hSw; (try dsimp only at hSw); go_simp; all_goals with_reducible rfl)
          try simp only [Act.put, List.setIfInBounds_toArray, List.set_cons_zero, List.set_cons_succ]
          refine wpAnyH_take (i := 15) (oi := { dst := some 21, op := Op.load 9 (Operand.tmp 20), type := 9, pos := "law.go:66", after := #[{ on := 14, ground := Ground.data }, { on := 10, ground := Ground.guard }], guard := some (10, false) }) (v := ?_) rfl (by kernel_rfl) (by kernel_rfl) (by kernel_rfl) (fun _ _ _ h => h) (Or.inl ⟨by rfl, ?_⟩) (by assumption) ?_
          rotate_left
          · (intro w9 hSw; (try dsimp only at hSw); go_simp; all_goals with_reducible rfl)
          try simp only [Act.put, List.setIfInBounds_toArray, List.set_cons_zero, List.set_cons_succ]
          refine wpAnyH_ready (rs := [13]) (by kernel_rfl) (by simp) ?_
          refine AllReadyH.cons (o := { dst := some 19, op := Op.call { callee := Callee.value (Operand.func 39), args := #[Operand.tmp 18], argTypes := #[9] }, type := 9, pos := "law.go:66", after := #[{ on := 12, ground := Ground.data }, { on := 10, ground := Ground.chain }, { on := 10, ground := Ground.guard }], guard := some (10, false) }) rfl (fun K hK => ?_) AllReadyH.nil
          go_simp
          refine (HSK.out _).mono ?_
          rintro e v3 ⟨rfl, hb⟩
          have HV3 := Lib.hid (show Below W0.heap.size W0 v3 from HV2.out.trans (hb.mono HV2.out.size))
          have p3a : v3.cell? ⟨w.heap.size, 0, none⟩ = some (.string k) := (HV3.out.cell (p := ⟨w.heap.size, 0, none⟩) hz0).trans t0
          have p3b : v3.cell? ⟨w.heap.size, 1, none⟩ = some (.string s) := (HV3.out.cell (p := ⟨w.heap.size, 1, none⟩) hz0).trans t1
          have p3c : v3.cell? ⟨w.heap.size, 2, none⟩ = some (.slice A n c) := (HV3.out.cell (p := ⟨w.heap.size, 2, none⟩) hz0).trans t2
          clear hb
          refine hK.out _ _ ⟨p3a, p3b, p3c⟩ (fun hHeld3 => ?_)
          clear hK K
          try simp only [Act.put, List.setIfInBounds_toArray, List.set_cons_zero, List.set_cons_succ]
          by_cases e3 : k2 = k
          · obtain rfl : k = k2 := e3.symm
            refine wpAnyH_take (i := 16) (oi := { dst := some 22, op := Op.binOp BinOp.neq 9 (Operand.tmp 19) (Operand.tmp 21) 9, type := 4, pos := "law.go:66", after := #[{ on := 13, ground := Ground.data }, { on := 15, ground := Ground.data }, { on := 10, ground := Ground.guard }], guard := some (10, false) }) (v := ?_) rfl (by kernel_rfl) (by kernel_rfl) (by kernel_rfl) (fun _ _ _ h => h) (Or.inl ⟨by rfl, ?_⟩) (by assumption) ?_
            rotate_left
            · (intro w9 hSw; (try dsimp only at hSw); go_simp; all_goals with_reducible rfl)
            try simp only [Act.put, List.setIfInBounds_toArray, List.set_cons_zero, List.set_cons_succ]
            refine wpAnyH_take (i := 17) (oi := { dst := some 23, op := Op.pick (Operand.tmp 16) (Operand.const (Value.bool true)) (Operand.tmp 22), type := 4, pos := "law.go:66", after := #[{ on := 10, ground := Ground.data }, { on := 16, ground := Ground.data }], guard := none }) (v := ?_) rfl (by kernel_rfl) (by kernel_rfl) (by kernel_rfl) (fun _ _ _ h => h) (Or.inl ⟨by rfl, ?_⟩) (by assumption) ?_
            rotate_left
            · (intro w9 hSw; (try dsimp only at hSw); go_simp; all_goals with_reducible rfl)
            try simp only [Act.put, List.setIfInBounds_toArray, List.set_cons_zero, List.set_cons_succ]
            refine wpAnyH_take (i := 18) (oi := { dst := some 24, op := Op.move (Operand.tmp 23), type := 4, pos := "law.go:66", after := #[{ on := 17, ground := Ground.data }, { on := 13, ground := Ground.chain }], guard := none }) (v := ?_) rfl (by kernel_rfl) (by kernel_rfl) (by kernel_rfl) (fun _ _ _ h => h) (Or.inl ⟨by rfl, ?_⟩) (by assumption) ?_
            rotate_left
            · (intro w9 hSw; (try dsimp only at hSw); go_simp; all_goals with_reducible rfl)
            try simp only [Act.put, List.setIfInBounds_toArray, List.set_cons_zero, List.set_cons_succ]
            refine wpAnyH_take (i := 19) (oi := { dst := some 25, op := Op.fieldAddr 26 (Operand.tmp 1) 1, type := 0, pos := "law.go:66", after := #[{ on := 18, ground := Ground.guard }], guard := some (18, false) }) (v := ?_) rfl (by kernel_rfl) (by kernel_rfl) (by kernel_rfl) (fun _ _ _ h => h) (Or.inl ⟨by rfl, ?_⟩) (by assumption) ?_
            rotate_left
            · (intro w9 hSw; (try dsimp only at hSw); go_simp; all_goals with_reducible rfl)
            try simp only [Act.put, List.setIfInBounds_toArray, List.set_cons_zero, List.set_cons_succ]
            refine wpAnyH_take (i := 20) (oi := { dst := some 26, op := Op.load 9 (Operand.tmp 25), type := 9, pos := "law.go:66", after := #[{ on := 19, ground := Ground.data }, { on := 18, ground := Ground.guard }], guard := some (18, false) }) (v := ?_) rfl (by kernel_rfl) (by kernel_rfl) (by kernel_rfl) (fun _ _ _ h => h) (Or.inl ⟨by rfl, ?_⟩) (by assumption) ?_
            rotate_left
            · (intro w9 hSw; (try dsimp only at hSw); go_simp; all_goals with_reducible rfl)
            try simp only [Act.put, List.setIfInBounds_toArray, List.set_cons_zero, List.set_cons_succ]
            refine wpAnyH_take (i := 22) (oi := { dst := some 28, op := Op.fieldAddr 26 (Operand.tmp 1) 1, type := 0, pos := "law.go:66", after := #[{ on := 18, ground := Ground.guard }], guard := some (18, false) }) (v := ?_) rfl (by kernel_rfl) (by kernel_rfl) (by kernel_rfl) (fun _ _ _ h => h) (Or.inl ⟨by rfl, ?_⟩) (by assumption) ?_
            rotate_left
            · (intro w9 hSw; (try dsimp only at hSw); go_simp; all_goals with_reducible rfl)
            try simp only [Act.put, List.setIfInBounds_toArray, List.set_cons_zero, List.set_cons_succ]
            refine wpAnyH_take (i := 23) (oi := { dst := some 29, op := Op.load 9 (Operand.tmp 28), type := 9, pos := "law.go:66", after := #[{ on := 22, ground := Ground.data }, { on := 18, ground := Ground.guard }], guard := some (18, false) }) (v := ?_) rfl (by kernel_rfl) (by kernel_rfl) (by kernel_rfl) (fun _ _ _ h => h) (Or.inl ⟨by rfl, ?_⟩) (by assumption) ?_
            rotate_left
            · (intro w9 hSw; (try dsimp only at hSw); go_simp; all_goals with_reducible rfl)
            try simp only [Act.put, List.setIfInBounds_toArray, List.set_cons_zero, List.set_cons_succ]
            refine wpAnyH_ready (rs := [21]) (by kernel_rfl) (by simp) ?_
            refine AllReadyH.cons (o := { dst := some 27, op := Op.call { callee := Callee.value (Operand.func 39), args := #[Operand.tmp 26], argTypes := #[9] }, type := 9, pos := "law.go:66", after := #[{ on := 20, ground := Ground.data }, { on := 18, ground := Ground.chain }, { on := 18, ground := Ground.guard }], guard := some (18, false) }) rfl (fun K hK => ?_) AllReadyH.nil
            go_simp
            refine (HSS.out _).mono ?_
            rintro e v4 ⟨rfl, hb⟩
            have HV4 := Lib.hid (show Below W0.heap.size W0 v4 from HV3.out.trans (hb.mono HV3.out.size))
            have p4a : v4.cell? ⟨w.heap.size, 0, none⟩ = some (.string k) := (HV4.out.cell (p := ⟨w.heap.size, 0, none⟩) hz0).trans t0
            have p4b : v4.cell? ⟨w.heap.size, 1, none⟩ = some (.string s) := (HV4.out.cell (p := ⟨w.heap.size, 1, none⟩) hz0).trans t1
            have p4c : v4.cell? ⟨w.heap.size, 2, none⟩ = some (.slice A n c) := (HV4.out.cell (p := ⟨w.heap.size, 2, none⟩) hz0).trans t2
            clear hb
            refine hK.out _ _ ⟨p4a, p4b, p4c⟩ (fun hHeld4 => ?_)
            clear hK K
            try simp only [Act.put, List.setIfInBounds_toArray, List.set_cons_zero, List.set_cons_succ]
            by_cases e4 : s2 = s
            · obtain rfl : s = s2 := e4.symm
              by_cases h20 : 20 < n
              · have HCB := Lib.hid (show true = cb by rw [← HCBE.out]; unfold badB; simp [h20])
                have h20i : (20 : Int) < (n : Int) := by omega
                refine wpAnyH_take (i := 24) (oi := { dst := some 30, op := Op.binOp BinOp.neq 9 (Operand.tmp 27) (Operand.tmp 29) 9, type := 4, pos := "law.go:66", after := #[{ on := 21, ground := Ground.data }, { on := 23, ground := Ground.data }, { on := 18, ground := Ground.guard }], guard := some (18, false) }) (v := ?_) rfl (by kernel_rfl) (by kernel_rfl) (by kernel_rfl) (fun _ _ _ h => h) (Or.inl ⟨by rfl, ?_⟩) (by assumption) ?_
                rotate_left
                · (intro w9 hSw; (try dsimp only at hSw); go_simp; all_goals with_reducible rfl)
                try simp only [Act.put, List.setIfInBounds_toArray, List.set_cons_zero, List.set_cons_succ]
                refine wpAnyH_take (i := 25) (oi := { dst := some 31, op := Op.pick (Operand.tmp 24) (Operand.const (Value.bool true)) (Operand.tmp 30), type := 4, pos := "law.go:66", after := #[{ on := 18, ground := Ground.data }, { on := 24, ground := Ground.data }], guard := none }) (v := ?_) rfl (by kernel_rfl) (by kernel_rfl) (by kernel_rfl) (fun _ _ _ h => h) (Or.inl ⟨by rfl, ?_⟩) (by assumption) ?_
                rotate_left
                · (intro w9 hSw; (try dsimp only at hSw); go_simp; all_goals with_reducible rfl)
                try simp only [Act.put, List.setIfInBounds_toArray, List.set_cons_zero, List.set_cons_succ]
                refine wpAnyH_take (i := 26) (oi := { dst := some 32, op := Op.move (Operand.tmp 31), type := 4, pos := "law.go:66", after := #[{ on := 25, ground := Ground.data }, { on := 21, ground := Ground.chain }], guard := none }) (v := ?_) rfl (by kernel_rfl) (by kernel_rfl) (by kernel_rfl) (fun _ _ _ h => h) (Or.inl ⟨by rfl, ?_⟩) (by assumption) ?_
                rotate_left
                · (intro w9 hSw; (try dsimp only at hSw); go_simp; all_goals with_reducible rfl)
                try simp only [Act.put, List.setIfInBounds_toArray, List.set_cons_zero, List.set_cons_succ]
                refine wpAnyH_take (i := 27) (oi := { dst := some 33, op := Op.fieldAddr 26 (Operand.tmp 1) 2, type := 0, pos := "law.go:66", after := #[{ on := 26, ground := Ground.guard }], guard := some (26, false) }) (v := ?_) rfl (by kernel_rfl) (by kernel_rfl) (by kernel_rfl) (fun _ _ _ h => h) (Or.inl ⟨by rfl, ?_⟩) (by assumption) ?_
                rotate_left
                · (intro w9 hSw; (try dsimp only at hSw); go_simp; all_goals with_reducible rfl)
                try simp only [Act.put, List.setIfInBounds_toArray, List.set_cons_zero, List.set_cons_succ]
                refine wpAnyH_take (i := 28) (oi := { dst := some 34, op := Op.load 24 (Operand.tmp 33), type := 24, pos := "law.go:66", after := #[{ on := 27, ground := Ground.data }, { on := 26, ground := Ground.guard }], guard := some (26, false) }) (v := ?_) rfl (by kernel_rfl) (by kernel_rfl) (by kernel_rfl) (fun _ _ _ h => h) (Or.inl ⟨by rfl, ?_⟩) (by assumption) ?_
                rotate_left
                · (intro w9 hSw; (try dsimp only at hSw); go_simp; all_goals with_reducible rfl)
                try simp only [Act.put, List.setIfInBounds_toArray, List.set_cons_zero, List.set_cons_succ]
                refine wpAnyH_take (i := 29) (oi := { dst := some 35, op := Op.call { callee := Callee.builtin Builtin.len, args := #[Operand.tmp 34], argTypes := #[24] }, type := 3, pos := "law.go:66", after := #[{ on := 28, ground := Ground.data }, { on := 26, ground := Ground.guard }], guard := some (26, false) }) (v := ?_) rfl (by kernel_rfl) (by kernel_rfl) (by kernel_rfl) (fun _ _ _ h => h) (Or.inl ⟨by rfl, ?_⟩) (by assumption) ?_
                rotate_left
                · (intro w9 hSw; (try dsimp only at hSw); go_simp; all_goals with_reducible rfl)
                try simp only [Act.put, List.setIfInBounds_toArray, List.set_cons_zero, List.set_cons_succ]
                refine wpAnyH_take (i := 30) (oi := { dst := some 36, op := Op.binOp BinOp.gtr 3 (Operand.tmp 35) (Operand.const (Value.int IntKind.i64 20)) 3, type := 4, pos := "law.go:66", after := #[{ on := 29, ground := Ground.data }, { on := 26, ground := Ground.guard }], guard := some (26, false) }) (v := ?_) rfl (by kernel_rfl) (by kernel_rfl) (by kernel_rfl) (fun _ _ _ h => h) (Or.inl ⟨by rfl, ?_⟩) (by assumption) ?_
                rotate_left
                · (intro w9 hSw; (try dsimp only at hSw); go_simp; all_goals with_reducible rfl)
                try simp only [Act.put, List.setIfInBounds_toArray, List.set_cons_zero, List.set_cons_succ]
                refine wpAnyH_take (i := 31) (oi := { dst := some 37, op := Op.pick (Operand.tmp 32) (Operand.const (Value.bool true)) (Operand.tmp 36), type := 4, pos := "law.go:66", after := #[{ on := 26, ground := Ground.data }, { on := 30, ground := Ground.data }], guard := none }) (v := ?_) rfl (by kernel_rfl) (by kernel_rfl) (by kernel_rfl) (fun _ _ _ h => h) (Or.inl ⟨by rfl, ?_⟩) (by assumption) ?_
                rotate_left
                · (intro w9 hSw; (try dsimp only at hSw); go_simp; all_goals with_reducible rfl)
                try simp only [Act.put, List.setIfInBounds_toArray, List.set_cons_zero, List.set_cons_succ]
                refine wpAnyH_done (by kernel_rfl) ?_ _
                go_wp2
                go_meet
                case rel => exact ⟨by rw [← HCB.out], Lib.hid ⟨HV4.out, p4a, p4b, p4c⟩⟩
              · have HCB := Lib.hid (show false = cb by rw [← HCBE.out]; unfold badB; simp [h20])
                have h20i : ¬ (20 : Int) < (n : Int) := by omega
                refine wpAnyH_take (i := 24) (oi := { dst := some 30, op := Op.binOp BinOp.neq 9 (Operand.tmp 27) (Operand.tmp 29) 9, type := 4, pos := "law.go:66", after := #[{ on := 21, ground := Ground.data }, { on := 23, ground := Ground.data }, { on := 18, ground := Ground.guard }], guard := some (18, false) }) (v := ?_) rfl (by kernel_rfl) (by kernel_rfl) (by kernel_rfl) (fun _ _ _ h => h) (Or.inl ⟨by rfl, ?_⟩) (by assumption) ?_
                rotate_left
                · (intro w9 hSw; (try dsimp only at hSw); go_simp; all_goals with_reducible rfl)
                try simp only [Act.put, List.setIfInBounds_toArray, List.set_cons_zero, List.set_cons_succ]
                refine wpAnyH_take (i := 25) (oi := { dst := some 31, op := Op.pick (Operand.tmp 24) (Operand.const (Value.bool true)) (Operand.tmp 30), type := 4, pos := "law.go:66", after := #[{ on := 18, ground := Ground.data }, { on := 24, ground := Ground.data }], guard := none }) (v := ?_) rfl (by kernel_rfl) (by kernel_rfl) (by kernel_rfl) (fun _ _ _ h => h) (Or.inl ⟨by rfl, ?_⟩) (by assumption) ?_
                rotate_left
                · (intro w9 hSw; (try dsimp only at hSw); go_simp; all_goals with_reducible rfl)
                try simp only [Act.put, List.setIfInBounds_toArray, List.set_cons_zero, List.set_cons_succ]
                refine wpAnyH_take (i := 26) (oi := { dst := some 32, op := Op.move (Operand.tmp 31), type := 4, pos := "law.go:66", after := #[{ on := 25, ground := Ground.data }, { on := 21, ground := Ground.chain }], guard := none }) (v := ?_) rfl (by kernel_rfl) (by kernel_rfl) (by kernel_rfl) (fun _ _ _ h => h) (Or.inl ⟨by rfl, ?_⟩) (by assumption) ?_
                rotate_left
                · (intro w9 hSw; (try dsimp only at hSw); go_simp; all_goals with_reducible rfl)
                try simp only [Act.put, List.setIfInBounds_toArray, List.set_cons_zero, List.set_cons_succ]
                refine wpAnyH_take (i := 27) (oi := { dst := some 33, op := Op.fieldAddr 26 (Operand.tmp 1) 2, type := 0, pos := "law.go:66", after := #[{ on := 26, ground := Ground.guard }], guard := some (26, false) }) (v := ?_) rfl (by kernel_rfl) (by kernel_rfl) (by kernel_rfl) (fun _ _ _ h => h) (Or.inl ⟨by rfl, ?_⟩) (by assumption) ?_
                rotate_left
                · (intro w9 hSw; (try dsimp only at hSw); go_simp; all_goals with_reducible rfl)
                try simp only [Act.put, List.setIfInBounds_toArray, List.set_cons_zero, List.set_cons_succ]
                refine wpAnyH_take (i := 28) (oi := { dst := some 34, op := Op.load 24 (Operand.tmp 33), type := 24, pos := "law.go:66", after := #[{ on := 27, ground := Ground.data }, { on := 26, ground := Ground.guard }], guard := some (26, false) }) (v := ?_) rfl (by kernel_rfl) (by kernel_rfl) (by kernel_rfl) (fun _ _ _ h => h) (Or.inl ⟨by rfl, ?_⟩) (by assumption) ?_
                rotate_left
                · (intro w9 hSw; (try dsimp only at hSw); go_simp; all_goals with_reducible rfl)
                try simp only [Act.put, List.setIfInBounds_toArray, List.set_cons_zero, List.set_cons_succ]
                refine wpAnyH_take (i := 29) (oi := { dst := some 35, op := Op.call { callee := Callee.builtin Builtin.len, args := #[Operand.tmp 34], argTypes := #[24] }, type := 3, pos := "law.go:66", after := #[{ on := 28, ground := Ground.data }, { on := 26, ground := Ground.guard }], guard := some (26, false) }) (v := ?_) rfl (by kernel_rfl) (by kernel_rfl) (by kernel_rfl) (fun _ _ _ h => h) (Or.inl ⟨by rfl, ?_⟩) (by assumption) ?_
                rotate_left
                · (intro w9 hSw; (try dsimp only at hSw); go_simp; all_goals with_reducible rfl)
                try simp only [Act.put, List.setIfInBounds_toArray, List.set_cons_zero, List.set_cons_succ]
                refine wpAnyH_take (i := 30) (oi := { dst := some 36, op := Op.binOp BinOp.gtr 3 (Operand.tmp 35) (Operand.const (Value.int IntKind.i64 20)) 3, type := 4, pos := "law.go:66", after := #[{ on := 29, ground := Ground.data }, { on := 26, ground := Ground.guard }], guard := some (26, false) }) (v := ?_) rfl (by kernel_rfl) (by kernel_rfl) (by kernel_rfl) (fun _ _ _ h => h) (Or.inl ⟨by rfl, ?_⟩) (by assumption) ?_
                rotate_left
                · (intro w9 hSw; (try dsimp only at hSw); go_simp; all_goals with_reducible rfl)
                try simp only [Act.put, List.setIfInBounds_toArray, List.set_cons_zero, List.set_cons_succ]
                refine wpAnyH_take (i := 31) (oi := { dst := some 37, op := Op.pick (Operand.tmp 32) (Operand.const (Value.bool true)) (Operand.tmp 36), type := 4, pos := "law.go:66", after := #[{ on := 26, ground := Ground.data }, { on := 30, ground := Ground.data }], guard := none }) (v := ?_) rfl (by kernel_rfl) (by kernel_rfl) (by kernel_rfl) (fun _ _ _ h => h) (Or.inl ⟨by rfl, ?_⟩) (by assumption) ?_
                rotate_left
                · (intro w9 hSw; (try dsimp only at hSw); go_simp; all_goals with_reducible rfl)
                try simp only [Act.put, List.setIfInBounds_toArray, List.set_cons_zero, List.set_cons_succ]
                refine wpAnyH_done (by kernel_rfl) ?_ _
                go_wp2
                go_meet
                case rel => exact ⟨by rw [← HCB.out], Lib.hid ⟨HV4.out, p4a, p4b, p4c⟩⟩
            · have HCB := Lib.hid (show true = cb by rw [← HCBE.out]; unfold badB; simp [e4])
              have g3 := HNS.out e4
              have g2 : (s2.toList == s.toList) = false := by simpa using g3
              refine wpAnyH_take (i := 24) (oi := { dst := some 30, op := Op.binOp BinOp.neq 9 (Operand.tmp 27) (Operand.tmp 29) 9, type := 4, pos := "law.go:66", after := #[{ on := 21, ground := Ground.data }, { on := 23, ground := Ground.data }, { on := 18, ground := Ground.guard }], guard := some (18, false) }) (v := ?_) rfl (by kernel_rfl) (by kernel_rfl) (by kernel_rfl) (fun _ _ _ h => h) (Or.inl ⟨by rfl, ?_⟩) (by assumption) ?_
              rotate_left
              · (intro w9 hSw; (try dsimp only at hSw); go_simp; all_goals with_reducible rfl)
              try simp only [Act.put, List.setIfInBounds_toArray, List.set_cons_zero, List.set_cons_succ]
              refine wpAnyH_take (i := 25) (oi := { dst := some 31, op := Op.pick (Operand.tmp 24) (Operand.const (Value.bool true)) (Operand.tmp 30), type := 4, pos := "law.go:66", after := #[{ on := 18, ground := Ground.data }, { on := 24, ground := Ground.data }], guard := none }) (v := ?_) rfl (by kernel_rfl) (by kernel_rfl) (by kernel_rfl) (fun _ _ _ h => h) (Or.inl ⟨by rfl, ?_⟩) (by assumption) ?_
              rotate_left
              · (intro w9 hSw; (try dsimp only at hSw); go_simp; all_goals with_reducible rfl)
              try simp only [Act.put, List.setIfInBounds_toArray, List.set_cons_zero, List.set_cons_succ]
              refine wpAnyH_take (i := 26) (oi := { dst := some 32, op := Op.move (Operand.tmp 31), type := 4, pos := "law.go:66", after := #[{ on := 25, ground := Ground.data }, { on := 21, ground := Ground.chain }], guard := none }) (v := ?_) rfl (by kernel_rfl) (by kernel_rfl) (by kernel_rfl) (fun _ _ _ h => h) (Or.inl ⟨by rfl, ?_⟩) (by assumption) ?_
              rotate_left
              · (intro w9 hSw; (try dsimp only at hSw); go_simp; all_goals with_reducible rfl)
              try simp only [Act.put, List.setIfInBounds_toArray, List.set_cons_zero, List.set_cons_succ]
              refine wpAnyH_take (i := 27) (oi := { dst := some 33, op := Op.fieldAddr 26 (Operand.tmp 1) 2, type := 0, pos := "law.go:66", after := #[{ on := 26, ground := Ground.guard }], guard := some (26, false) }) (v := undef) rfl (by kernel_rfl) (by kernel_rfl) (by kernel_rfl) (fun _ _ _ h => h) (Or.inr ⟨by rfl, rfl⟩) (by assumption) ?_
              try simp only [Act.put, List.setIfInBounds_toArray, List.set_cons_zero, List.set_cons_succ]
              refine wpAnyH_take (i := 28) (oi := { dst := some 34, op := Op.load 24 (Operand.tmp 33), type := 24, pos := "law.go:66", after := #[{ on := 27, ground := Ground.data }, { on := 26, ground := Ground.guard }], guard := some (26, false) }) (v := undef) rfl (by kernel_rfl) (by kernel_rfl) (by kernel_rfl) (fun _ _ _ h => h) (Or.inr ⟨by rfl, rfl⟩) (by assumption) ?_
              try simp only [Act.put, List.setIfInBounds_toArray, List.set_cons_zero, List.set_cons_succ]
              refine wpAnyH_take (i := 29) (oi := { dst := some 35, op := Op.call { callee := Callee.builtin Builtin.len, args := #[Operand.tmp 34], argTypes := #[24] }, type := 3, pos := "law.go:66", after := #[{ on := 28, ground := Ground.data }, { on := 26, ground := Ground.guard }], guard := some (26, false) }) (v := undef) rfl (by kernel_rfl) (by kernel_rfl) (by kernel_rfl) (fun _ _ _ h => h) (Or.inr ⟨by rfl, rfl⟩) (by assumption) ?_
              try simp only [Act.put, List.setIfInBounds_toArray, List.set_cons_zero, List.set_cons_succ]
              refine wpAnyH_take (i := 30) (oi := { dst := some 36, op := Op.binOp BinOp.gtr 3 (Operand.tmp 35) (Operand.const (Value.int IntKind.i64 20)) 3, type := 4, pos := "law.go:66", after := #[{ on := 29, ground := Ground.data }, { on := 26, ground := Ground.guard }], guard := some (26, false) }) (v := undef) rfl (by kernel_rfl) (by kernel_rfl) (by kernel_rfl) (fun _ _ _ h => h) (Or.inr ⟨by rfl, rfl⟩) (by assumption) ?_
              try simp only [Act.put, List.setIfInBounds_toArray, List.set_cons_zero, List.set_cons_succ]
              refine wpAnyH_take (i := 31) (oi := { dst := some 37, op := Op.pick (Operand.tmp 32) (Operand.const (Value.bool true)) (Operand.tmp 36), type := 4, pos := "law.go:66", after := #[{ on := 26, ground := Ground.data }, { on := 30, ground := Ground.data }], guard := none }) (v := ?_) rfl (by kernel_rfl) (by kernel_rfl) (by kernel_rfl) (fun _ _ _ h => h) (Or.inl ⟨by rfl, ?_⟩) (by assumption) ?_
              rotate_left
              · (intro w9 hSw; (try dsimp only at hSw); go_simp; all_goals with_reducible rfl)
              try simp only [Act.put, List.setIfInBounds_toArray, List.set_cons_zero, List.set_cons_succ]
              refine wpAnyH_done (by kernel_rfl) ?_ _
              go_wp2
              go_meet
              case rel => exact ⟨by rw [← HCB.out], Lib.hid ⟨HV4.out, p4a, p4b, p4c⟩⟩
          · have HCB := Lib.hid (show true = cb by rw [← HCBE.out]; unfold badB; simp [e3])
            have g3 := HNK.out e3
            have g2 : (k2.toList == k.toList) = false := by simpa using g3
            refine wpAnyH_take (i := 16) (oi := { dst := some 22, op := Op.binOp BinOp.neq 9 (Operand.tmp 19) (Operand.tmp 21) 9, type := 4, pos := "law.go:66", after := #[{ on := 13, ground := Ground.data }, { on := 15, ground := Ground.data }, { on := 10, ground := Ground.guard }], guard := some (10, false) }) (v := ?_) rfl (by kernel_rfl) (by kernel_rfl) (by kernel_rfl) (fun _ _ _ h => h) (Or.inl ⟨by rfl, ?_⟩) (by assumption) ?_
            rotate_left
            · (intro w9 hSw; (try dsimp only at hSw); go_simp; all_goals with_reducible rfl)
            try simp only [Act.put, List.setIfInBounds_toArray, List.set_cons_zero, List.set_cons_succ]
            refine wpAnyH_take (i := 17) (oi := { dst := some 23, op := Op.pick (Operand.tmp 16) (Operand.const (Value.bool true)) (Operand.tmp 22), type := 4, pos := "law.go:66", after := #[{ on := 10, ground := Ground.data }, { on := 16, ground := Ground.data }], guard := none }) (v := ?_) rfl (by kernel_rfl) (by kernel_rfl) (by kernel_rfl) (fun _ _ _ h => h) (Or.inl ⟨by rfl, ?_⟩) (by assumption) ?_
            rotate_left
            · (intro w9 hSw; (try dsimp only at hSw); go_simp; all_goals with_reducible rfl)
            try simp only [Act.put, List.setIfInBounds_toArray, List.set_cons_zero, List.set_cons_succ]
            refine wpAnyH_take (i := 18) (oi := { dst := some 24, op := Op.move (Operand.tmp 23), type := 4, pos := "law.go:66", after := #[{ on := 17, ground := Ground.data }, { on := 13, ground := Ground.chain }], guard := none }) (v := ?_) rfl (by kernel_rfl) (by kernel_rfl) (by kernel_rfl) (fun _ _ _ h => h) (Or.inl ⟨by rfl, ?_⟩) (by assumption) ?_
            rotate_left
            · (intro w9 hSw; (try dsimp only at hSw); go_simp; all_goals with_reducible rfl)
            try simp only [Act.put, List.setIfInBounds_toArray, List.set_cons_zero, List.set_cons_succ]
            refine wpAnyH_take (i := 19) (oi := { dst := some 25, op := Op.fieldAddr 26 (Operand.tmp 1) 1, type := 0, pos := "law.go:66", after := #[{ on := 18, ground := Ground.guard }], guard := some (18, false) }) (v := undef) rfl (by kernel_rfl) (by kernel_rfl) (by kernel_rfl) (fun _ _ _ h => h) (Or.inr ⟨by rfl, rfl⟩) (by assumption) ?_
            try simp only [Act.put, List.setIfInBounds_toArray, List.set_cons_zero, List.set_cons_succ]
            refine wpAnyH_take (i := 20) (oi := { dst := some 26, op := Op.load 9 (Operand.tmp 25), type := 9, pos := "law.go:66", after := #[{ on := 19, ground := Ground.data }, { on := 18, ground := Ground.guard }], guard := some (18, false) }) (v := undef) rfl (by kernel_rfl) (by kernel_rfl) (by kernel_rfl) (fun _ _ _ h => h) (Or.inr ⟨by rfl, rfl⟩) (by assumption) ?_
            try simp only [Act.put, List.setIfInBounds_toArray, List.set_cons_zero, List.set_cons_succ]
            refine wpAnyH_take (i := 21) (oi := { dst := some 27, op := Op.call { callee := Callee.value (Operand.func 39), args := #[Operand.tmp 26], argTypes := #[9] }, type := 9, pos := "law.go:66", after := #[{ on := 20, ground := Ground.data }, { on := 18, ground := Ground.chain }, { on := 18, ground := Ground.guard }], guard := some (18, false) }) (v := undef) rfl (by kernel_rfl) (by kernel_rfl) (by kernel_rfl) (fun _ _ _ h => h) (Or.inr ⟨by rfl, rfl⟩) (by assumption) ?_
            try simp only [Act.put, List.setIfInBounds_toArray, List.set_cons_zero, List.set_cons_succ]
            refine wpAnyH_take (i := 22) (oi := { dst := some 28, op := Op.fieldAddr 26 (Operand.tmp 1) 1, type := 0, pos := "law.go:66", after := #[{ on := 18, ground := Ground.guard }], guard := some (18, false) }) (v := undef) rfl (by kernel_rfl) (by kernel_rfl) (by kernel_rfl) (fun _ _ _ h => h) (Or.inr ⟨by rfl, rfl⟩) (by assumption) ?_
            try simp only [Act.put, List.setIfInBounds_toArray, List.set_cons_zero, List.set_cons_succ]
            refine wpAnyH_take (i := 23) (oi := { dst := some 29, op := Op.load 9 (Operand.tmp 28), type := 9, pos := "law.go:66", after := #[{ on := 22, ground := Ground.data }, { on := 18, ground := Ground.guard }], guard := some (18, false) }) (v := undef) rfl (by kernel_rfl) (by kernel_rfl) (by kernel_rfl) (fun _ _ _ h => h) (Or.inr ⟨by rfl, rfl⟩) (by assumption) ?_
            try simp only [Act.put, List.setIfInBounds_toArray, List.set_cons_zero, List.set_cons_succ]
            refine wpAnyH_take (i := 24) (oi := { dst := some 30, op := Op.binOp BinOp.neq 9 (Operand.tmp 27) (Operand.tmp 29) 9, type := 4, pos := "law.go:66", after := #[{ on := 21, ground := Ground.data }, { on := 23, ground := Ground.data }, { on := 18, ground := Ground.guard }], guard := some (18, false) }) (v := undef) rfl (by kernel_rfl) (by kernel_rfl) (by kernel_rfl) (fun _ _ _ h => h) (Or.inr ⟨by rfl, rfl⟩) (by assumption) ?_
            try simp only [Act.put, List.setIfInBounds_toArray, List.set_cons_zero, List.set_cons_succ]
            refine wpAnyH_take (i := 25) (oi := { dst := some 31, op := Op.pick (Operand.tmp 24) (Operand.const (Value.bool true)) (Operand.tmp 30), type := 4, pos := "law.go:66", after := #[{ on := 18, ground := Ground.data }, { on := 24, ground := Ground.data }], guard := none }) (v := ?_) rfl (by kernel_rfl) (by kernel_rfl) (by kernel_rfl) (fun _ _ _ h => h) (Or.inl ⟨by rfl, ?_⟩) (by assumption) ?_
            rotate_left
            · (intro w9 hSw; (try dsimp only at hSw); go_simp; all_goals with_reducible rfl)
            try simp only [Act.put, List.setIfInBounds_toArray, List.set_cons_zero, List.set_cons_succ]
            refine wpAnyH_take (i := 26) (oi := { dst := some 32, op := Op.move (Operand.tmp 31), type := 4, pos := "law.go:66", after := #[{ on := 25, ground := Ground.data }, { on := 21, ground := Ground.chain }], guard := none }) (v := ?_) rfl (by kernel_rfl) (by kernel_rfl) (by kernel_rfl) (fun _ _ _ h => h) (Or.inl ⟨by rfl, ?_⟩) (by assumption) ?_
            rotate_left
            · (intro w9 hSw; (try dsimp only at hSw); go_simp; all_goals with_reducible rfl)
            try simp only [Act.put, List.setIfInBounds_toArray, List.set_cons_zero, List.set_cons_succ]
            refine wpAnyH_take (i := 27) (oi := { dst := some 33, op := Op.fieldAddr 26 (Operand.tmp 1) 2, type := 0, pos := "law.go:66", after := #[{ on := 26, ground := Ground.guard }], guard := some (26, false) }) (v := undef) rfl (by kernel_rfl) (by kernel_rfl) (by kernel_rfl) (fun _ _ _ h => h) (Or.inr ⟨by rfl, rfl⟩) (by assumption) ?_
            try simp only [Act.put, List.setIfInBounds_toArray, List.set_cons_zero, List.set_cons_succ]
            refine wpAnyH_take (i := 28) (oi := { dst := some 34, op := Op.load 24 (Operand.tmp 33), type := 24, pos := "law.go:66", after := #[{ on := 27, ground := Ground.data }, { on := 26, ground := Ground.guard }], guard := some (26, false) }) (v := undef) rfl (by kernel_rfl) (by kernel_rfl) (by kernel_rfl) (fun _ _ _ h => h) (Or.inr ⟨by rfl, rfl⟩) (by assumption) ?_
            try simp only [Act.put, List.setIfInBounds_toArray, List.set_cons_zero, List.set_cons_succ]
            refine wpAnyH_take (i := 29) (oi := { dst := some 35, op := Op.call { callee := Callee.builtin Builtin.len, args := #[Operand.tmp 34], argTypes := #[24] }, type := 3, pos := "law.go:66", after := #[{ on := 28, ground := Ground.data }, { on := 26, ground := Ground.guard }], guard := some (26, false) }) (v := undef) rfl (by kernel_rfl) (by kernel_rfl) (by kernel_rfl) (fun _ _ _ h => h) (Or.inr ⟨by rfl, rfl⟩) (by assumption) ?_
            try simp only [Act.put, List.setIfInBounds_toArray, List.set_cons_zero, List.set_cons_succ]
            refine wpAnyH_take (i := 30) (oi := { dst := some 36, op := Op.binOp BinOp.gtr 3 (Operand.tmp 35) (Operand.const (Value.int IntKind.i64 20)) 3, type := 4, pos := "law.go:66", after := #[{ on := 29, ground := Ground.data }, { on := 26, ground := Ground.guard }], guard := some (26, false) }) (v := undef) rfl (by kernel_rfl) (by kernel_rfl) (by kernel_rfl) (fun _ _ _ h => h) (Or.inr ⟨by rfl, rfl⟩) (by assumption) ?_
            try simp only [Act.put, List.setIfInBounds_toArray, List.set_cons_zero, List.set_cons_succ]
            refine wpAnyH_take (i := 31) (oi := { dst := some 37, op := Op.pick (Operand.tmp 32) (Operand.const (Value.bool true)) (Operand.tmp 36), type := 4, pos := "law.go:66", after := #[{ on := 26, ground := Ground.data }, { on := 30, ground := Ground.data }], guard := none }) (v := ?_) rfl (by kernel_rfl) (by kernel_rfl) (by kernel_rfl) (fun _ _ _ h => h) (Or.inl ⟨by rfl, ?_⟩) (by assumption) ?_
            rotate_left
            · (intro w9 hSw; (try dsimp only at hSw); go_simp; all_goals with_reducible rfl)
            try simp only [Act.put, List.setIfInBounds_toArray, List.set_cons_zero, List.set_cons_succ]
            refine wpAnyH_done (by kernel_rfl) ?_ _
            go_wp2
            go_meet
            case rel => exact ⟨by rw [← HCB.out], Lib.hid ⟨HV3.out, p3a, p3b, p3c⟩⟩
  case rest =>
    obtain ⟨rfl, HC⟩ := hcut
    have HBc := Lib.hid (HB0.out.trans (HC.out.bel.mono HB0.out.size))
    have HPc := Lib.hid ((HP0.out.below HC.out.bel).more HC.out.bel.size)
    have HTc := Lib.hid (HT0.out.below HC.out.bel)
    have hzc : w.heap.size < wc.heap.size := Nat.lt_of_lt_of_le hz0 HC.out.bel.size
    have HC2 := Lib.hid HC.out.c2
    clear HP0 HT0 HB0 HWK HWS HSK HSS HNK HNS t0 t1 t2 HC hz0
    cases cb
    · have HFIN := Lib.hid (HRT.out rfl)
      have t2 := HC2.out
      have hn20 : n ≤ 20 := by
        have h := HCBE.out
        unfold badB at h
        simp only [Bool.or_eq_false_iff, decide_eq_false_iff_not] at h
        obtain ⟨-, -, -, -, h5⟩ := h
        omega
      clear HRT HCBE
      go_wp2
      go_loopw [3, 4, 5] (fun i pp qq wr => ∃ (x : Nat) (y z : Value), pp = y ∧ qq = z ∧ x ≤ n ∧ i = .int .i64 (x : Int) ∧ Hid (RtRel wc ps x wr)) (fun i _ _ _ => n - (intOf i).toNat)
      case atStart => exact ⟨0, _, _, rfl, rfl, Nat.zero_le _, rfl, Lib.hid ⟨(fun p hp => by simp at hp), (by simp), Below.refl _ _⟩⟩
      case round =>
        obtain ⟨x, y, z, rfl, rfl, hx, rfl, HR⟩ := hrel
        clear t2
        have HBr := Lib.hid HR.out.bel
        have t2 : wr.cell? ⟨w.heap.size, 2, none⟩ = some (.slice A n c) := (HBr.out.cell (p := ⟨w.heap.size, 2, none⟩) hzc).trans HC2.out
        by_cases hlt : x < n
        · have hx2 : (x : Int) < n := by omega
          have hkl : x < ps.length := by rw [HN.out]; exact hlt
          obtain ⟨ad, rfl, hbl, c0, c1, -⟩ := (HPc.out.below HBr.out).2 x hkl
          have HST := Lib.hid (rt_step hkl HR.out)
          have hpl := HPS.out _ (List.getElem_mem hkl)
          obtain ⟨p, hp⟩ : ∃ p, ps[x] = p := ⟨_, rfl⟩
          rw [hp] at c0 c1 HST hpl
          obtain ⟨p1, p2⟩ := p
          have d0 : wr.cell? (ad.add (x * 2)) = some (.string (ba p1)) := c0
          have d1 : wr.cell? ⟨(ad.add (x * 2)).block, (ad.add (x * 2)).off + 1, none⟩ = some (.string (ba p2)) := c1
          have HGO := Lib.hid (good_of (p := (p1, p2)))
          have HNM := Lib.hid (fun W => named_any p1 W hpl.1)
          have HFE := Lib.hid (show ∀ W, Calls Tryz.prog 9 #[.string (ba p2)] W fun e w' => e = .returned (.bool (decide (p2.length ≤ 2000))) ∧ w' = W from fun W => few_any p2 W)
          have HVA := Lib.hid (fun W hW => valid_any p2 W (Nat.le_trans hpl.2 (by decide)) hW)
          have hBA := HBr.out.alloc HBr.out.size (.cells #[.string (ba p1), .string (ba p2)] 37)
          have HBA := Lib.hid hBA
          have HK1 := Lib.hid (show ∀ W, Below (wr.heap.size + 1) (wr.alloc (.cells #[.string (ba p1), .string (ba p2)] 37)) W → W.cell? ⟨wr.heap.size, 0, none⟩ = some (.string (ba p1)) from fun W hW => (hW.cell (p := ⟨wr.heap.size, 0, none⟩) (by simp)).trans (by go_simp))
          have HSZ := Lib.hid (show (wr.alloc (.cells #[.string (ba p1), .string (ba p2)] 37)).heap.size = wr.heap.size + 1 by simp)
          obtain ⟨b1, hb1⟩ : ∃ b, namedB p1 = b := ⟨_, rfl⟩
          obtain ⟨b2, hb2⟩ : ∃ b, decide (p2.length ≤ 2000) = b := ⟨_, rfl⟩
          obtain ⟨b3, hb3⟩ : ∃ b, Lib.validD p2 = b := ⟨_, rfl⟩
          have HGD := Lib.hid (show b1 = true → b2 = true → b3 = true → GoodP (p1, p2) ∧ (p1, p2).2.length ≤ 2000 from fun e1 e2 e3 => HGO.out (hb1.trans e1) (of_decide_eq_true (hb2.trans e2)) (hb3.trans e3))
          simp only [hb1] at HNM
          simp only [hb2] at HFE
          simp only [hb3] at HVA
          obtain ⟨s1, hs1⟩ : ∃ q, ba p1 = q := ⟨_, rfl⟩
          obtain ⟨s2, hs2⟩ : ∃ q, ba p2 = q := ⟨_, rfl⟩
          rw [hs1] at d0 HNM HBA HK1 HSZ
          rw [hs2] at d1 HFE HVA HBA HK1 HSZ
          have HQ1 := Lib.hid hs1
          clear hb1 hb2 hb3 hs1 hs2 HGO hpl hp hkl hbl c0 c1 hBA HR
          go_wp2_with fail
          refine (HNM.out _).mono ?_
          rintro e v1 ⟨rfl, hb⟩
          have HB1 := Lib.hid (show Below (wr.heap.size + 1) (wr.alloc (.cells #[.string s1, .string s2] 37)) v1 from hb.mono (Nat.le_of_eq HSZ.out.symm))
          have HW1 := Lib.hid (HBA.out.trans (hb.mono HBA.out.size))
          clear hb
          cases b1
          · go_wp2
            go_ret
            exact right_no (HBc.out.trans (HW1.out.mono HBc.out.size))
          · have f1 : v1.cell? ⟨wr.heap.size, 1, none⟩ = some (.string s2) := (HB1.out.cell (p := ⟨wr.heap.size, 1, none⟩) (by simp)).trans (by go_simp)
            go_wp2_with fail
            refine (HFE.out _).mono ?_
            rintro e v2 ⟨rfl, hv⟩
            obtain rfl : v1 = v2 := hv.symm
            clear hv
            cases b2
            · go_wp2
              go_ret
              exact right_no (HBc.out.trans (HW1.out.mono HBc.out.size))
            · go_wp2_with fail
              refine (HVA.out _ (HTc.out.below HW1.out)).mono ?_
              rintro e v3 ⟨rfl, hb⟩
              have HB3 := Lib.hid (show Below (wr.heap.size + 1) (wr.alloc (.cells #[.string s1, .string s2] 37)) v3 from HB1.out.trans (hb.mono (by have := HB1.out.size; rw [HSZ.out] at this; exact this)))
              have HW3 := Lib.hid (HW1.out.trans (hb.mono HW1.out.size))
              clear hb
              cases b3
              · go_wp2
                go_ret
                exact right_no (HBc.out.trans (HW3.out.mono HBc.out.size))
              · have HGG := Lib.hid (HGD.out (by first | trivial | rfl) (by first | trivial | rfl) (by first | trivial | rfl))
                have g0 : v3.cell? ⟨wr.heap.size, 0, none⟩ = some (.string s1) := HK1.out v3 HB3.out
                have hn3 : wr.heap.size < v3.heap.size := by have := HB3.out.size; rw [HSZ.out] at this; omega
                have HZ3 := Lib.hid HW3.out.size
                clear t2 d0 d1 f1 HB1 HW1 HNM HFE HVA HGD
                have HG0 := Lib.hid g0
                obtain ⟨nb, hnb⟩ : ∃ nb, wr.heap.size = nb := ⟨_, rfl⟩
                rw [hnb] at hn3 HG0 g0
                go_wp2
                go_loopw [5] (fun i wr => ∃ j : Nat, j ≤ x ∧ i = .int .i64 (j : Int) ∧ Hid (IrRel v3 ps p1 j wr)) (fun i _ => x - (intOf i).toNat)
                case atStart => exact ⟨0, Nat.zero_le _, rfl, Lib.hid ⟨(fun j _ hj => absurd hj (by omega)), Below.refl _ _⟩⟩
                case round =>
                  obtain ⟨j, hj, rfl, HI⟩ := hrel
                  clear g0
                  have HBi := Lib.hid HI.out.bel
                  have HWi := Lib.hid (HW3.out.trans (HBi.out.mono HW3.out.size))
                  have t2 : wr.cell? ⟨w.heap.size, 2, none⟩ = some (.slice (some ad) n c) := (HWi.out.cell (p := ⟨w.heap.size, 2, none⟩) hzc).trans HC2.out
                  have g0 : wr.cell? ⟨nb, 0, none⟩ = some (.string s1) := (HBi.out.cell (p := ⟨nb, 0, none⟩) hn3).trans HG0.out
                  by_cases hj2 : j < x
                  · have hji : (j : Int) < x := by omega
                    have hjn : (j : Int) < n := by omega
                    have hkj : j < ps.length := by rw [HN.out]; omega
                    obtain ⟨ad2, e2, -, c0, -, -⟩ := (HPc.out.below HWi.out).2 j hkj
                    injection e2 with e2
                    subst e2
                    have HBD := Lib.hid HBi.out.drew
                    have HWD := Lib.hid HWi.out.drew
                    have HIS := Lib.hid (show ps[j].1 ≠ p1 → ∀ W, Below v3.heap.size v3 W → IrRel v3 ps p1 (j + 1) W from fun hne W hW => ⟨fun i hi hlt => by
                      by_cases e : i = j
                      · subst e; exact hne
                      · exact HI.out.ne i hi (by omega), hW⟩)
                    obtain ⟨q, hq⟩ : ∃ q, ps[j] = q := ⟨_, rfl⟩
                    rw [hq] at c0 HIS
                    obtain ⟨q1, q2⟩ := q
                    have d0 : wr.cell? (ad.add (j * 2)) = some (.string (ba q1)) := c0
                    clear hq c0 hkj HI
                    by_cases e1 : q1 = p1
                    · subst e1
                      rw [HQ1.out] at d0
                      clear HIS
                      go_wp2
                      go_region
                      all_goals
                        go_wp2
                        go_ret
                        exact right_no (HBc.out.trans (HWD.out.mono HBc.out.size))
                    · have g3 : ¬ (ba q1).toList = s1.toList := by rw [← HQ1.out]; exact ba_ne _ _ fun h => e1 (ba_inj.1 h)
                      have g4 : ((ba q1).toList == s1.toList) = false := by simpa using g3
                      have HIV := Lib.hid (HIS.out e1 _ HBD.out)
                      obtain ⟨sq, hsq⟩ : ∃ q, ba q1 = q := ⟨_, rfl⟩
                      rw [hsq] at d0 g3 g4
                      clear hsq e1 HIS
                      go_wp2
                      go_region
                      all_goals
                        go_wp2
                        go_roundw
                        case rel => exact ⟨j + 1, by omega, by go_num, HIV⟩
                        case measure => simp [intOf] <;> omega
                  · obtain rfl : x = j := by omega
                    have HNX := Lib.hid (HST.out HGG.out HI.out.ne wr HWi.out)
                    clear HI
                    go_wp2
                    go_roundw
                    case rel => exact ⟨x + 1, _, _, rfl, rfl, by omega, by go_num, HNX⟩
                    case measure => simp [intOf] <;> omega
        · obtain rfl : n = x := by omega
          have HE := Lib.hid (HFIN.out (by
            have h := HR.out.good
            rw [List.take_of_length_le (by rw [HN.out]; exact Nat.le_refl _)] at h
            exact h) (by
            have h := HR.out.nodup
            rw [List.take_of_length_le (by rw [HN.out]; exact Nat.le_refl _)] at h
            exact h))
          clear HR
          go_wp2
          go_ret
          exact ⟨true, rfl, HBc.out.trans (HBr.out.mono HBc.out.size), fun _ => HE.out⟩
    · go_wp2
      go_ret
      exact right_no HBc.out
end Go.Proofs.YtnpgnohlcphfnaaGreatDoor
