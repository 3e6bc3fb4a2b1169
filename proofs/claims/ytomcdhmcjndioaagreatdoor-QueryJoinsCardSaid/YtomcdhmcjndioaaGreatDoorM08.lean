/- Layer 37: the contract of Same. Layer 37: the contract of field. Layer 37: the contract of quoted. Layer 32: a row of words of the call's own, and append of one word. strings.Builder, written and read: contracts over a builder of the call's own (copyCheck's panic is out of the model's reach, so the shelf does not lay the writers). strings.Builder: a rune written. Layer 5: the contract of the program's Fold. -/
import Derived.Deep.DeepCutAuto
import Derived.Test.YtomcdhmcjndioaaGreatDoorShelfP
import Derived.Shelf.Strings.BuilderK
import Derived.Shelf.Strings.BuilderRune
import Derived.Lib.RuneBytes
import Derived.Test.YtomcdhmcjndioaaGreatDoorM07
import Derived.Test.YtomcdhmcjndioaaGreatDoorM06
import Derived.Test.YtomcdhmcjndioaaGreatDoorM01
import Derived.Test.YtomcdhmcjndioaaGreatDoorM02
import Derived.Test.YtomcdhmcjndioaaGreatDoorM05
section
namespace Go.Proofs.YtomcdhmcjndioaaGreatDoor
open Go.RowKit
set_option linter.unusedVariables false

/-- Whether two things are equal. -/
noncomputable def eqC {α : Type} (a b : α) : Bool := @decide (a = b) (Classical.propDecidable _)
theorem eqC_true {α : Type} {a b : α} : eqC a b = true ↔ a = b := by unfold eqC; exact @decide_eq_true_iff _ (Classical.propDecidable _)
theorem eqC_false {α : Type} {a b : α} (h : a ≠ b) : eqC a b = false := by unfold eqC; exact @decide_eq_false _ (Classical.propDecidable _) h
noncomputable abbrev eqQ (a b : Qry) : Bool := eqC a b
theorem eqQ_true {a b : Qry} : eqQ a b = true ↔ a = b := eqC_true
theorem eqQ_false {a b : Qry} (h : a ≠ b) : eqQ a b = false := eqC_false h
def SmPost (w : World) (v : Bool) (e : Ending) (w' : World) : Prop := e = .returned (.bool v) ∧ Below w.heap.size w w'
theorem sm_end {w w' : World} {b c : Bool} (h : b = c) (hb : Below w.heap.size w w') : SmPost w b (.returned (.bool c)) w' := by
  subst h
  exact ⟨rfl, hb⟩
theorem QDeep.bel {w w' : World} {P : Nat → Prop} {r : RawQ} {q : Qry} (h : QDeep w P r q) (hb : Below w.heap.size w w') : QDeep w' P r q :=
  QDeep.keep (QDeep.lt h) hb.size (fun b h => hb.block b h.2) (fun b h => h.1)
/-- The children of a query, in memory. -/
structure KidsIn (w : World) (A : Option Addr) (n : Nat) (l : List Qry) (raws : List RawQ) : Prop where
  row : Raws w w.heap.size A n raws
  len : raws.length = l.length
  max : n ≤ maxLen
  all : ∀ i (h1 : i < raws.length) (h2 : i < l.length), QDeep w (fun _ => True) raws[i] l[i]
theorem KidsIn.bel {w w' : World} {A : Option Addr} {n : Nat} {l : List Qry} {raws : List RawQ} (h : KidsIn w A n l raws) (hb : Below w.heap.size w w') : KidsIn w' A n l raws :=
  ⟨(h.row.below hb).more hb.size, h.len, h.max, fun i h1 h2 => (h.all i h1 h2).bel hb⟩
theorem KidsIn.size {w : World} {A : Option Addr} {n : Nat} {l : List Qry} {raws : List RawQ} (h : KidsIn w A n l raws) : n = l.length := by rw [← h.len, h.row.len]
/-- A query in memory: its words, and its children. -/
theorem QDeep.open_ {w : World} {P : Nat → Prop} {op fld n : Int} {t : List UInt8} {A : Option Addr} {m c : Nat} {q : Qry} (h : QDeep w P ⟨op, fld, t, n, (A, m, c)⟩ q) : ∃ kids raws, q = .mk op fld t n kids ∧ KidsIn w A m kids raws ∧ m ≤ c ∧ c ≤ maxLen := by
  cases h with
  | mk hr hp hl hm hc hk => exact ⟨_, _, rfl, ⟨hr, hl, Nat.le_trans hm hc, fun i h1 h2 => (hk i h1 h2).more fun _ _ => trivial⟩, hm, hc⟩
theorem kid_size {op fld n : Int} {t : List UInt8} {kids : List Qry} {k : Qry} (h : k ∈ kids) : SizeOf.sizeOf k < SizeOf.sizeOf (Qry.mk op fld t n kids) := by
  have := List.sizeOf_lt_of_mem h
  rw [Qry.mk.sizeOf_spec]
  omega
/-- What is claimed of K (one of the two Same) at the query q. -/
def SameC (K : Nat) (q : Qry) : Prop := ∀ (w : World) (r1 r2 : RawQ) (q2 : Qry), QDeep w (fun _ => True) r1 q → QDeep w (fun _ => True) r2 q2 → Calls Tryz.prog K #[r1.val, r2.val] w (SmPost w (eqQ q q2))
theorem take_sameQ {ps qs : List Qry} {k : Nat} (h1 : k < ps.length) (h2 : k < qs.length) (h : ps.take k = qs.take k) (he : ps[k] = qs[k]) : ps.take (k + 1) = qs.take (k + 1) := by
  rw [List.take_succ_eq_append_getElem h1, List.take_succ_eq_append_getElem h2, h, he]
structure SqRel (w : World) (ps qs : List Qry) (k : Nat) (wr : World) : Prop where
  eq : ps.take k = qs.take k
  bel : Below w.heap.size w wr
set_option maxRecDepth 100000 in
set_option maxHeartbeats 4000000 in
theorem eqfunc_any (ps qs : List Qry) (A A' : Option Addr) (n n' c c' : Nat) (raws raws' : List RawQ) (w : World) (hP : KidsIn w A n ps raws) (hQ : KidsIn w A' n' qs raws') (IH : ∀ p ∈ ps, SameC 9 p) :
    Calls Tryz.prog 19 #[.slice A n c, .slice A' n' c', .func (.func 9) #[] #[]] w (SmPost w (eqC ps qs)) := by
  have HP := Lib.hid hP
  have HQ := Lib.hid hQ
  have HN := Lib.hid hP.size
  have HN' := Lib.hid hQ.size
  have HIH := Lib.hid IH
  have hmx := hP.max
  unfold maxLen at hmx
  clear hP hQ IH
  by_cases hnn : n = n'
  · subst hnn
    go_enter Tryz.func19, Tryz.ntmps19
    go_wp2
    go_loopw [17] (fun i wr => ∃ k : Nat, k ≤ n ∧ i = .int .i64 (k : Int) ∧ Hid (SqRel w ps qs k wr)) (fun i _ => n - (intOf i).toNat)
    case atStart => exact ⟨0, Nat.zero_le _, rfl, Lib.hid ⟨rfl, Below.refl _ _⟩⟩
    case round =>
      obtain ⟨k, hk, rfl, HR⟩ := hrel
      by_cases hlt : k < n
      · have hk2 : (k : Int) < n := by omega
        have hkl : k < ps.length := by rw [← HN.out]; exact hlt
        have hkq : k < qs.length := by rw [← HN'.out]; exact hlt
        have HPR := Lib.hid (HP.out.bel HR.out.bel)
        have HQR := Lib.hid (HQ.out.bel HR.out.bel)
        have hkr : k < raws.length := by rw [HPR.out.len]; exact hkl
        have hkr' : k < raws'.length := by rw [HQR.out.len]; exact hkq
        obtain ⟨ad, rfl, la, c0, c1, c2, c3, c4, -⟩ := HPR.out.row.2 k hkr
        obtain ⟨ae, rfl, le, d0, d1, d2, d3, d4, -⟩ := HQR.out.row.2 k hkr'
        have HTS := Lib.hid (take_sameQ hkl hkq HR.out.eq)
        have HNE := Lib.hid (fun (h : ps[k] ≠ qs[k]) (e : ps = qs) => h (by subst e; rfl))
        have hda := HPR.out.all k hkr hkl
        have hdb := HQR.out.all k hkr' hkq
        have hih := HIH.out ps[k] (List.getElem_mem hkl)
        obtain ⟨p, hp⟩ : ∃ p, ps[k] = p := ⟨_, rfl⟩
        obtain ⟨q, hq⟩ : ∃ p, qs[k] = p := ⟨_, rfl⟩
        obtain ⟨r, hr⟩ : ∃ r, raws[k] = r := ⟨_, rfl⟩
        obtain ⟨r', hr'⟩ : ∃ r, raws'[k] = r := ⟨_, rfl⟩
        rw [hp] at HTS HNE hda hih
        rw [hq] at HTS HNE hdb
        rw [hr] at c0 c1 c2 c3 c4 hda
        rw [hr'] at d0 d1 d2 d3 d4 hdb
        obtain ⟨o1, f1, t1, n1, A1, m1, cc1⟩ := r
        obtain ⟨o2, f2, t2, n2, A2, m2, cc2⟩ := r'
        dsimp only at c0 c1 c2 c3 c4 d0 d1 d2 d3 d4
        have HBE := Lib.hid HR.out.bel
        obtain ⟨ob1, hob1⟩ : ∃ o : Obj, .cells #[.int .i64 o1, .int .i64 f1, .string (ba t1), .int .i64 n1, .slice A1 m1 cc1] 25 = o := ⟨_, rfl⟩
        obtain ⟨ob2, hob2⟩ : ∃ o : Obj, .cells #[.int .i64 o2, .int .i64 f2, .string (ba t2), .int .i64 n2, .slice A2 m2 cc2] 25 = o := ⟨_, rfl⟩
        have hbw : Below wr.heap.size wr ((wr.alloc ob1).alloc ob2) := ((Below.refl _ _).alloc (Nat.le_refl _) _).alloc (by simp) _
        have HC := Lib.hid (hih _ _ _ q (hda.bel hbw) (hdb.bel hbw))
        have HB2 := Lib.hid (HBE.out.trans (hbw.mono HBE.out.size))
        rw [← hob1, ← hob2] at HC HB2
        clear hp hq hkl hkq hda hdb hih hr hr' HPR HQR HR hob1 hob2 hbw hkr hkr'
        unfold RawQ.val at HC
        dsimp only at HC
        go_wp2_with fail
        refine HC.out.mono ?_
        rintro e w2 ⟨rfl, hb2⟩
        have HB3 := Lib.hid (HB2.out.trans (hb2.mono HB2.out.size))
        clear hb2
        by_cases he : p = q
        · have HT := Lib.hid (HTS.out he)
          rw [eqQ_true.2 he]
          clear HTS HNE he
          go_wp2
          go_roundw
          case rel => exact ⟨k + 1, by omega, by go_num, Lib.hid ⟨HT.out, HB3.out⟩⟩
          case measure => simp [intOf] <;> omega
        · have HF := Lib.hid (show eqC ps qs = false from eqC_false (HNE.out he))
          rw [eqQ_false he]
          clear HTS HNE he
          go_wp2
          go_ret
          exact sm_end HF.out HB3.out
      · obtain rfl : k = n := by omega
        have HF := Lib.hid (show eqC ps qs = true from eqC_true.2 (by
          have h := HR.out.eq
          rw [List.take_of_length_le (by rw [← HN.out]; exact Nat.le_refl _), List.take_of_length_le (by rw [← HN'.out]; exact Nat.le_refl _)] at h
          exact h))
        have HBE := Lib.hid HR.out.bel
        clear HR
        go_wp2
        go_ret
        exact sm_end HF.out HBE.out
  · have HF := Lib.hid (show eqC ps qs = false from eqC_false fun h => hnn (by rw [HN.out, HN'.out, h]))
    have g1 : ((n : Int) == (n' : Int)) = false := by simpa using fun h : (n : Int) = (n' : Int) => hnn (by omega)
    have g2 : ¬ (n : Int) = (n' : Int) := by omega
    have HB := Lib.hid (Below.refl w.heap.size w)
    go_enter Tryz.func19, Tryz.ntmps19
    go_wp2
    go_ret
    exact sm_end HF.out HB.out
theorem eqQ_mk (o1 f1 n1 : Int) (t1 : List UInt8) (k1 : List Qry) (o2 f2 n2 : Int) (t2 : List UInt8) (k2 : List Qry) : eqQ (.mk o1 f1 t1 n1 k1) (.mk o2 f2 t2 n2 k2) = (decide (o1 = o2) && (decide (f1 = f2) && (decide (t1 = t2) && (decide (n1 = n2) && eqC k1 k2)))) := by
  rw [Bool.eq_iff_iff]
  simp only [eqC_true, decide_eq_true_iff, Bool.and_eq_true, Qry.mk.injEq]
theorem txt_ne {s t : List UInt8} (h : s ≠ t) : ((ba s).toList == (ba t).toList) = false ∧ ¬ (ba s).toList = (ba t).toList := by
  rw [ba_toList, ba_toList]
  exact ⟨by simpa using h, h⟩
theorem eqQ_ne {a b : Qry} {o1 f1 n1 o2 f2 n2 : Int} {t1 t2 : List UInt8} {k1 k2 : List Qry} (ha : a = .mk o1 f1 t1 n1 k1) (hb : b = .mk o2 f2 t2 n2 k2) (h : ¬ (o1 = o2 ∧ f1 = f2 ∧ t1 = t2 ∧ n1 = n2)) : eqQ a b = false := by
  refine eqQ_false fun e => h ?_
  rw [ha, hb] at e
  injection e with e1 e2 e3 e4 e5
  exact ⟨e1, e2, e3, e4⟩
set_option maxRecDepth 100000 in
set_option maxHeartbeats 4000000 in
theorem qsame_step (q : Qry) (IH : ∀ p ∈ q.kids, SameC 9 p) : SameC 9 q := by
  intro w r1 r2 q2 h1 h2
  obtain ⟨o1, f1, t1, n1, A1, m1, c1⟩ := r1
  obtain ⟨o2, f2, t2, n2, A2, m2, c2⟩ := r2
  obtain ⟨ps, raws1, rfl, hk1, -, -⟩ := h1.open_
  obtain ⟨qs, raws2, rfl, hk2, -, -⟩ := h2.open_
  have HB := Lib.hid (show Below w.heap.size w ((w.alloc (.cells #[.int .i64 o1, .int .i64 f1, .string (ba t1), .int .i64 n1, .slice A1 m1 c1] 25)).alloc (.cells #[.int .i64 o2, .int .i64 f2, .string (ba t2), .int .i64 n2, .slice A2 m2 c2] 25)) from ((Below.refl _ _).alloc (Nat.le_refl _) _).alloc (by simp) _)
  have HC := Lib.hid (eqfunc_any ps qs A1 A2 m1 m2 c1 c2 raws1 raws2 _ (hk1.bel HB.out) (hk2.bel HB.out) IH)
  have HE := Lib.hid (eqQ_mk o1 f1 n1 t1 ps o2 f2 n2 t2 qs)
  have HNE := Lib.hid (eqQ_ne (k1 := ps) (k2 := qs) (o1 := o1) (f1 := f1) (n1 := n1) (t1 := t1) (o2 := o2) (f2 := f2) (n2 := n2) (t2 := t2) rfl rfl)
  obtain ⟨R, hR⟩ : ∃ R, eqQ (.mk o1 f1 t1 n1 ps) (.mk o2 f2 t2 n2 qs) = R := ⟨_, rfl⟩
  rw [hR] at HE HNE ⊢
  clear h1 h2 hk1 hk2 IH hR
  unfold RawQ.val
  dsimp only
  by_cases e1 : o1 = o2
  · subst e1
    by_cases e2 : f1 = f2
    · subst e2
      by_cases e3 : t1 = t2
      · subst e3
        by_cases e4 : n1 = n2
        · subst e4
          unfold SmPost at HC
          obtain ⟨V, hV⟩ : ∃ V, eqC ps qs = V := ⟨_, rfl⟩
          rw [hV] at HC HE
          have HF := Lib.hid (show R = V by rw [HE.out]; simp)
          clear HE HNE hV
          go_enter Tryz.func9, Tryz.ntmps9
          go_wp2_with fail
          refine HC.out.mono ?_
          rintro e w2 ⟨rfl, hb⟩
          have HB2 := Lib.hid (HB.out.trans (hb.mono HB.out.size))
          clear hb
          go_wp2
          go_ret
          exact sm_end HF.out HB2.out
        · have HF := Lib.hid (HNE.out fun h => e4 h.2.2.2)
          have g1 : (n1 == n2) = false := by simpa using e4
          clear HC HE HNE
          go_enter Tryz.func9, Tryz.ntmps9
          go_wp2
          go_ret
          exact sm_end HF.out HB.out
      · have HF := Lib.hid (HNE.out fun h => e3 h.2.2.1)
        obtain ⟨g1, g2⟩ := txt_ne e3
        clear HC HE HNE e3
        go_enter Tryz.func9, Tryz.ntmps9
        go_wp2
        go_ret
        exact sm_end HF.out HB.out
    · have HF := Lib.hid (HNE.out fun h => e2 h.2.1)
      have g1 : (f1 == f2) = false := by simpa using e2
      clear HC HE HNE
      go_enter Tryz.func9, Tryz.ntmps9
      go_wp2
      go_ret
      exact sm_end HF.out HB.out
  · have HF := Lib.hid (HNE.out fun h => e1 h.1)
    have g1 : (o1 == o2) = false := by simpa using e1
    clear HC HE HNE
    go_enter Tryz.func9, Tryz.ntmps9
    go_wp2
    go_ret
    exact sm_end HF.out HB.out
/-- Same by induction on the size of its first query. -/
theorem same_all (K : Nat) (step : ∀ q, (∀ p ∈ q.kids, SameC K p) → SameC K q) : ∀ (n : Nat) (q : Qry), SizeOf.sizeOf q ≤ n → SameC K q
  | 0, .mk o f t n kids, h => by rw [Qry.mk.sizeOf_spec] at h; omega
  | k + 1, .mk o f t n kids, h => step _ fun p hp => same_all K step k p (by have := kid_size (op := o) (fld := f) (t := t) (n := n) (show p ∈ kids from hp); omega)
theorem qsame_any (q : Qry) : SameC 9 q := same_all _ qsame_step _ q (Nat.le_refl _)
end Go.Proofs.YtomcdhmcjndioaaGreatDoor
end
section
namespace Go.Proofs.YtomcdhmcjndioaaGreatDoor
open Go.RowKit
set_option linter.unusedVariables false

theorem idx_field (s : List UInt8) : Lib.idxOfS ([ba [], ba [102, 114, 111, 109], ba [116, 111], ba [115, 117, 98, 106, 101, 99, 116], ba [98, 111, 100, 121], ba [102, 105, 108, 101]]) (ba (smallP s)) = -1 ∧ fieldQ s = 0 ∨ Lib.idxOfS ([ba [], ba [102, 114, 111, 109], ba [116, 111], ba [115, 117, 98, 106, 101, 99, 116], ba [98, 111, 100, 121], ba [102, 105, 108, 101]]) (ba (smallP s)) = (fieldQ s : Nat) := by
  unfold fieldQ
  obtain ⟨t, ht⟩ : ∃ t, smallP s = t := ⟨_, rfl⟩
  rw [ht]
  by_cases h0 : t = []
  · subst h0; right; decide
  by_cases h1 : t = [102, 114, 111, 109]
  · subst h1; right; decide
  by_cases h2 : t = [116, 111]
  · subst h2; right; decide
  by_cases h3 : t = [115, 117, 98, 106, 101, 99, 116]
  · subst h3; right; decide
  by_cases h4 : t = [98, 111, 100, 121]
  · subst h4; right; decide
  by_cases h5 : t = [102, 105, 108, 101]
  · subst h5; right; decide
  · left
    refine ⟨?_, by simp [h1, h2, h3, h4, h5]⟩
    have e : ∀ x : List UInt8, t ≠ x → ¬ (ba x = ba t) := fun x h e => h (ba_inj.1 e).symm
    simp [Lib.idxOfS, Lib.idxFromS, e _ h0, e _ h1, e _ h2, e _ h3, e _ h4, e _ h5]
set_option maxRecDepth 100000 in
set_option maxHeartbeats 4000000 in
theorem qfield_any (l : List UInt8) (w : World) (hl : l.length ≤ 1000000000) (hT : QTabs w) :
    Calls Tryz.prog 28 #[.string (ba l)] w fun e w' => e = .returned (.int .i64 (fieldQ l : Nat)) ∧ Below w.heap.size w w' := by
  have HSM := Lib.hid (fun W => qsmall_any l W hl)
  unfold StrB at HSM
  have HT := Lib.hid hT
  have HIX := Lib.hid (show ∀ W, QTabs W → Calls Tryz.prog 48 #[.slice (some ⟨0, 0, none⟩) 6 6, .string (ba (smallP l))] W fun e w' => e = .returned (.int .i64 (Lib.idxOfS ([ba [], ba [102, 114, 111, 109], ba [116, 111], ba [115, 117, 98, 106, 101, 99, 116], ba [98, 111, 100, 121], ba [102, 105, 108, 101]]) (ba (smallP l)))) ∧ w' = W from fun W h => by
    refine (Tryz.slices_Index_string 0 0 6 6 [ba [], ba [102, 114, 111, 109], ba [116, 111], ba [115, 117, 98, 106, 101, 99, 116], ba [98, 111, 100, 121], ba [102, 105, 108, 101]] (ba (smallP l)) W (by simp) (by decide) (fun j hj => ?_)).mono ?_
    · rw [Nat.zero_add]
      have h1 := h.fld j (by simpa using hj)
      rw [h1]
      have hj6 : j < 6 := by simpa using hj
      rcases (show j = 0 ∨ j = 1 ∨ j = 2 ∨ j = 3 ∨ j = 4 ∨ j = 5 by omega) with rfl | rfl | rfl | rfl | rfl | rfl <;> rfl
    · rintro e w' ⟨rfl, rfl⟩
      exact ⟨rfl, rfl⟩)
  have HV := Lib.hid (idx_field l)
  obtain ⟨v, hv⟩ : ∃ v, Lib.idxOfS ([ba [], ba [102, 114, 111, 109], ba [116, 111], ba [115, 117, 98, 106, 101, 99, 116], ba [98, 111, 100, 121], ba [102, 105, 108, 101]]) (ba (smallP l)) = v := ⟨_, rfl⟩
  simp only [hv] at HV HIX
  obtain ⟨t, ht⟩ : ∃ t, ba (smallP l) = t := ⟨_, rfl⟩
  simp only [ht] at HIX HSM
  obtain ⟨s, hs⟩ : ∃ s, ba l = s := ⟨_, rfl⟩
  simp only [hs] at HSM
  rw [hs]
  have c0 := hT.fld 0 (by decide)
  clear hv ht hs hT
  go_enter Tryz.func28, Tryz.ntmps28
  go_wp2_with fail
  go_region_held3 (fun w' => w'.cell? ⟨0, 0, none⟩ = some (.string (ba (fieldsQ.getD 0 []))))
    (first | assumption | go_keep)
    (first
      | (go_simp; go_at_call 49; refine (HSM.out _).mono ?_; rintro e v1 ⟨rfl, hb⟩; (
          have HV1 := Lib.hid (show Below w.heap.size w v1 from (show Below w.heap.size w w.drew from (Below.refl _ _).drew).trans (hb.mono (Nat.le_refl _)))
          have p0 : v1.cell? ⟨0, 0, none⟩ = some (.string (ba (fieldsQ.getD 0 []))) := (HT.out.below HV1.out).fld 0 (by decide)
          clear hb))
      | (go_simp; go_at_call 48; refine (HIX.out _ (HT.out.below HV1.out)).mono ?_; rintro e v2 ⟨rfl, rfl⟩)
      | fail)
  all_goals
    have HE := Lib.hid (show max v 0 = ((fieldQ l : Nat) : Int) by rcases HV.out with ⟨h1, h2⟩ | h1 <;> omega)
    clear HV
    go_wp2
    go_ret
    exact ⟨by rw [HE.out]; rfl, HV1.out⟩
end Go.Proofs.YtomcdhmcjndioaaGreatDoor
end
section
namespace Go.Proofs.YtomcdhmcjndioaaGreatDoor
open Go.RowKit
set_option linter.unusedVariables false

theorem bdN {B : Nat} {a b : World} (h : Below B a b) (n : Nat) : Below B a (b.drewN n) := ⟨h.os, h.tape, h.output, h.size, h.block⟩
/-- A token as the program's piece. -/
def pcV (x : Pce) : Value := match x.tok with
  | .fin => .agg #[.int .i64 0, .int .i64 (x.src : Nat), .int .i64 (x.dst : Nat), .string ⟨#[]⟩, .int .i64 0, .bool false]
  | .opn => .agg #[.int .i64 1, .int .i64 (x.src : Nat), .int .i64 (x.dst : Nat), .string ⟨#[]⟩, .int .i64 0, .bool false]
  | .sht => .agg #[.int .i64 2, .int .i64 (x.src : Nat), .int .i64 (x.dst : Nat), .string ⟨#[]⟩, .int .i64 0, .bool false]
  | .dash => .agg #[.int .i64 3, .int .i64 (x.src : Nat), .int .i64 (x.dst : Nat), .string ⟨#[]⟩, .int .i64 0, .bool false]
  | .bad => .agg #[.int .i64 4, .int .i64 (x.src : Nat), .int .i64 0, .string ⟨#[]⟩, .int .i64 0, .bool true]
  | .quo t f _ => .agg #[.int .i64 4, .int .i64 (x.src : Nat), .int .i64 (x.dst : Nat), .string (ba t), .int .i64 (f : Nat), .bool false]
  | .bare t => .agg #[.int .i64 5, .int .i64 (x.src : Nat), .int .i64 (x.dst : Nat), .string (ba t), .int .i64 0, .bool false]
def QPk (w : World) (x : Pce) (e : Ending) (w' : World) : Prop := e = .returned (pcV x) ∧ Below w.heap.size w w'
theorem qpk_end {w w' : World} {x y : Pce} {v : Value} (h : x = y) (hv : v = pcV y) (hb : Below w.heap.size w w') : QPk w x (.returned v) w' := by
  rw [h, hv]
  exact ⟨rfl, hb⟩
theorem quo_cut (a : Nat) (r : List UInt8) : (cutP 34 r = none ∧ ∀ src f raw, quoQ src a r f raw = ⟨a, a, .bad⟩) ∨ ∃ t u, cutP 34 r = some (t, u) ∧ t.length + u.length + 1 = r.length ∧ ∀ src f raw, quoQ src a r f raw = ⟨src, a + t.length + 2, .quo t f raw⟩ := by
  cases h : cutP 34 r with
  | none => exact .inl ⟨rfl, fun src f raw => quo_bad (cutP_none.1 h)⟩
  | some q =>
    obtain ⟨t, u⟩ := q
    have h1 := cutP_some h
    refine .inr ⟨t, u, rfl, by rw [h1.1]; simp; omega, fun src f raw => quo_ok h1.1 h1.2⟩
set_option maxRecDepth 100000 in
set_option maxHeartbeats 4000000 in
theorem qquoted_any (l raw : List UInt8) (b src a f : Nat) (w : World) (hl : l.length ≤ 1000000000) (hsr : src ≤ 1000000000) (ha : a < l.length) (hf : f ≤ 100) (hT : QTabs w) (c0 : w.cell? ⟨b, 0, none⟩ = some (.string (ba l))) :
    Calls Tryz.prog 25 #[.pointer (some ⟨b, 0, none⟩), .int .i64 (src : Int), .int .i64 (a : Int), .int .i64 (f : Int)] w (QPk w (quoQ src a (l.drop (a + 1)) f raw)) := by
  have HQ := Lib.hid (quo_cut a (l.drop (a + 1)))
  have HLL := Lib.hid (show (l.drop (a + 1)).length = l.length - (a + 1) from List.length_drop)
  have HT := Lib.hid hT
  have hbw : b < w.heap.size := World.block_lt_of_cell? w ⟨b, 0, none⟩ c0
  obtain ⟨n, hn⟩ : ∃ n, l.length = n := ⟨_, rfl⟩
  have HD := Lib.hid (ba_drop l (a + 1))
  obtain ⟨s, hs⟩ : ∃ s, ba l = s := ⟨_, rfl⟩
  have hsz : (s.size : Int) = n := by rw [← hs, ba_size, hn]
  rw [hs] at c0 HD
  rw [hn] at hl ha HLL
  have HRL := Lib.hid (show (l.drop (a + 1)).length ≤ 1000000000 by rw [HLL.out]; omega)
  obtain ⟨r, hr⟩ : ∃ r, l.drop (a + 1) = r := ⟨_, rfl⟩
  rw [hr] at HD HQ HLL HRL ⊢
  have h1 : (a : Int) + 1 ≤ (n : Int) := by omega
  clear hs hn hr hT
  rcases HQ.out with ⟨hc, hq⟩ | ⟨t, u, hc, hlen, hq⟩
  · have HF := Lib.hid (hq src f raw)
    have HCV := Lib.hid (show cutV 34 r = (r, [], false) by unfold cutV; rw [hc])
    clear hc hq HQ
    go_enter Tryz.func25, Tryz.ntmps25
    go_wp2_with fail
    rw [HD.out]
    refine (cut_any 34 r _ HRL.out (HT.out.below ((Below.refl _ _).alloc (Nat.le_refl _) _))).mono ?_
    rintro e w1 ⟨rfl, k, rfl⟩
    have HB1 := Lib.hid (bdN ((Below.refl w.heap.size w).alloc (Nat.le_refl _) (.cells #[.int .i64 0, .int .i64 0, .int .i64 0, .string ⟨#[]⟩, .int .i64 0, .bool false] 41)) k)
    rw [HCV.out]
    go_wp2
    refine bodyPost_ret (by simp [results, Tryz.results25, go_sem]; try rfl) rfl ?_
    refine qpk_end HF.out rfl ?_
    repeat (first | (with_reducible exact HB1.out) | refine Below.setCell ?_ (by simp) _)
  · have HF := Lib.hid (hq src f raw)
    have HCV := Lib.hid (show cutV 34 r = (t, u, true) by unfold cutV; rw [hc])
    have htl : (t.length : Int) + (a : Int) + 2 ≤ (n : Int) := by rw [HLL.out] at hlen; omega
    have HZ := Lib.hid (ba_size t)
    clear hc hq HQ hlen
    obtain ⟨m, hm⟩ : ∃ m, t.length = m := ⟨_, rfl⟩
    rw [hm] at htl HF HZ
    obtain ⟨z, hz⟩ : ∃ z, ba t = z := ⟨_, rfl⟩
    have HZZ := Lib.hid hz
    rw [hz] at HZ
    have hz1 : (z.size : Int) = m := by rw [HZ.out]
    clear hm
    go_enter Tryz.func25, Tryz.ntmps25
    go_wp2_with fail
    rw [HD.out]
    refine (cut_any 34 r _ HRL.out (HT.out.below ((Below.refl _ _).alloc (Nat.le_refl _) _))).mono ?_
    rintro e w1 ⟨rfl, k, rfl⟩
    have HB1 := Lib.hid (bdN ((Below.refl w.heap.size w).alloc (Nat.le_refl _) (.cells #[.int .i64 0, .int .i64 0, .int .i64 0, .string ⟨#[]⟩, .int .i64 0, .bool false] 41)) k)
    rw [HCV.out]
    dsimp only
    rw [HZZ.out]
    go_wp2
    refine bodyPost_ret (by simp [results, Tryz.results25, go_sem]; try rfl) rfl ?_
    refine qpk_end HF.out (by rw [← HZZ.out]; rfl) ?_
    repeat (first | (with_reducible exact HB1.out) | refine Below.setCell ?_ (by simp) _)
end Go.Proofs.YtomcdhmcjndioaaGreatDoor
end
section
namespace Go.Proofs.YtomcdhmcjndioaaGreatDoor
open Go.RowKit
set_option linter.unusedVariables false

theorem word_info : (Tryz.prog.info? 69).map (fun i => (i.zero, i.size, i.bytes)) = some (some (.agg #[.string ByteArray.empty, .int .i64 0, .int .i64 0]), 3, 32) := by kernel_rfl
/-- The cells of the word that lies at a range of a text. -/
def wordCells (l : List UInt8) (r : Nat × Nat) : List Value := [.string (ba (wordAt l r)), .int .i64 r.1, .int .i64 r.2]
/-- v owns the words of l at the ranges ws, in a row of its own from B on. -/
def OwnWords (w : World) (B : Nat) (v : Value) (l : List UInt8) (ws : List (Nat × Nat)) : Prop := w.ownsRow B 69 3 v ws.length (ws.flatMap (wordCells l))
theorem OwnWords.nil_ (w : World) (B : Nat) (l : List UInt8) : OwnWords w B (.slice none 0 0) l [] := World.ownsRow_nil _ _ _ _
theorem OwnWords.below {w w' : World} {B : Nat} {v : Value} {l : List UInt8} {ws : List (Nat × Nat)} (h : OwnWords w B v l ws) (hb : Below w.heap.size w w') : OwnWords w' B v l ws :=
  ownsRow_block h fun b e => hb.block b (h.lt b e).2
theorem OwnWords.shape {w : World} {B : Nat} {v : Value} {l : List UInt8} {ws : List (Nat × Nat)} (h : OwnWords w B v l ws) : ∃ A c, v = .slice A ws.length c ∧ ws.length ≤ c ∧ c ≤ maxLen := by
  rcases h.2 with ⟨rfl, h0⟩ | ⟨g, cap, cur, rfl, hb, hg, q1, q2, q3⟩
  · exact ⟨none, 0, by rw [h0], by omega, by simp⟩
  · exact ⟨_, cap, rfl, q1, q2⟩
theorem word_len (l : List UInt8) : ∀ ws : List (Nat × Nat), (ws.flatMap (wordCells l)).length = ws.length * 3 := fun ws => by induction ws with | nil => rfl | cons a r ih => simp [wordCells] at ih ⊢; omega
theorem word_get (l : List UInt8) : ∀ (ws : List (Nat × Nat)) j (hj : j < ws.length) i (hi : i < 3), (ws.flatMap (wordCells l))[j * 3 + i]? = (wordCells l ws[j])[i]? := fun ws => by
  induction ws with
  | nil => intro j hj; simp at hj
  | cons a r ih =>
    intro j hj i hi
    cases j with
    | zero =>
      simp only [List.flatMap_cons, List.getElem_cons_zero, Nat.zero_mul, Nat.zero_add]
      rw [List.getElem?_append_left (by simp [wordCells]; omega)]
    | succ j =>
      have := ih j (by simpa using hj) i hi
      simp only [List.flatMap_cons, List.getElem_cons_succ]
      rw [List.getElem?_append_right (by simp [wordCells]; omega), show (j + 1) * 3 + i - (wordCells l a).length = j * 3 + i by simp [wordCells]; omega]
      exact this
set_option maxRecDepth 100000 in
theorem wp_pushWord {o : Oper} {a : Act} {K : Act → World → Prop} {W : World} {Q : Exit → Act → World → Prop} {B : Nat} {v : Value} {l : List UInt8} {ws : List (Nat × Nat)} {r : Nat × Nat} (hT : OwnWords W B v l ws) (hB : B ≤ W.heap.size)
    (hlen : ws.length ≤ 1000000000) (s y : Operand) (c : Nat)
    (ho : o.op = .call { callee := .builtin .append, args := #[s, y], argTypes := #[66, 66] }) (hs : a.eval s = v) (hx : a.eval y = .slice (some ⟨W.heap.size, 0, none⟩) 1 c)
    (h : ∀ v' w', OwnWords w' B v' l (ws ++ [r]) → W.grownBy w' v.ownBlock → K (a.put o.dst v') w') : o.wp Tryz.prog a (W.alloc (.cells #[.string (ba (wordAt l r)), .int .i64 r.1, .int .i64 r.2] 69)) K Q := by
  obtain ⟨i0, hi, hz0, hz1, hz2⟩ := info_parts word_info
  obtain ⟨v', w', hrun, h1, h2, _, h4⟩ := run_append_own_at (P := Tryz.prog) (W.alloc (.cells #[.string (ba (wordAt l r)), .int .i64 r.1, .int .i64 r.2] 69)) B 66 o.type 69 i0 _ 3 32 Tryz.underlying66 hi hz0 hz1 hz2 rfl (by omega) v ws.length (ws.flatMap (wordCells l)) (World.ownsRow.alloc hT _) ⟨W.heap.size, 0, none⟩ 1 c (wordCells l r) rfl (World.news_of_block (MapKept.heap_alloc W _).1) (by
    intro u hu
    simp only [wordCells, List.mem_cons, List.not_mem_nil, or_false] at hu
    rcases hu with rfl | rfl | rfl <;> rfl) (by simp only [maxLen]; omega) (by omega) (by simp; omega)
  have h5 := World.grownBy_alloc W (.cells #[.string (ba (wordAt l r)), .int .i64 r.1, .int .i64 r.2] 69) v.ownBlock
  have hg : W.grownBy w' v.ownBlock := ⟨h2.os.trans h5.os, h2.tape.trans h5.tape, h2.output.trans h5.output, Nat.le_trans h5.size h2.size, fun k hk hne => (h2.block k (by simp; omega) hne).trans (h5.block k hk hne)⟩
  have hfin : OwnWords w' B v' l (ws ++ [r]) := by
    show w'.ownsRow B _ 3 v' _ _
    simpa using h1
  unfold Oper.wp execOp
  simp only [ho, resolve, invoke, builtin, Sem.run_bind, Sem.run_pure, Result.andThen_ok, List.map_toArray, List.map_cons, List.map_nil, hs, hx, hrun]
  exact h v' w' hfin hg
theorem step_pushWord {ops : Array Oper} {o : Oper} {a : Act} {W : World} {K : Act → World → Prop} {Q : Exit → Act → World → Prop} {E : Prop} {B : Nat} {v : Value} {l : List UInt8} {ws : List (Nat × Nat)} {r : Nat × Nat} (hT : OwnWords W B v l ws) (hB : B ≤ W.heap.size)
    (hlen : ws.length ≤ 1000000000) (hgd : o.guard = none) (s y : Operand) (c : Nat)
    (ho : o.op = .call { callee := .builtin .append, args := #[s, y], argTypes := #[66, 66] }) (hs : a.eval s = v) (hx : a.eval y = .slice (some ⟨W.heap.size, 0, none⟩) 1 c)
    (h : ∀ v' w', OwnWords w' B v' l (ws ++ [r]) → W.grownBy w' v.ownBlock → K (a.put o.dst v') w') :
    if Region.wanted o (yielded ops a.tmps) = true then Oper.wp Tryz.prog o a (W.alloc (.cells #[.string (ba (wordAt l r)), .int .i64 r.1, .int .i64 r.2] 69)) K Q else E := by
  have hw : Region.wanted o (yielded ops a.tmps) = true := by simp [Region.wanted, hgd]
  rw [if_pos hw]
  exact wp_pushWord hT hB hlen s y c ho hs hx h
end Go.Proofs.YtomcdhmcjndioaaGreatDoor
end
section
namespace Go.Proofs.YtomcdhmcjndioaaGreatDoor
open Go.RowKit
set_option linter.unusedVariables false

/-- The builder at block b holds the bytes l; its memory lies from B on. -/
def Bld (w : World) (B b : Nat) (l : List UInt8) : Prop := Lib.IsBuilderF 95 5 B b (Lib.byteCells l) w
theorem bld_new (w : World) : Bld (w.alloc (.cells #[.pointer none, .slice none 0 0] 95)) w.heap.size w.heap.size [] := Lib.IsBuilderF.of (Lib.fresh_isBuilder 95 5 w)
theorem Bld.alloc {w : World} {B b : Nat} {l : List UInt8} (h : Bld w B b l) (o : Obj) : Bld (w.alloc o) B b l := Lib.IsBuilderF.alloc h o
theorem Bld.below {w w' : World} {B b : Nat} {l : List UInt8} (h : Bld w B b l) (hb : Below w.heap.size w w') : Bld w' B b l := by
  have key : ∀ p, Lib.BuilderAtF 95 5 B b p (Lib.byteCells l) w → Lib.BuilderAtF 95 5 B b p (Lib.byteCells l) w' := by
    rintro p ⟨h1, v, h2, h3, h4⟩
    refine ⟨h1, v, (hb.block b (heap_lt h2)).trans h2, ?_, h4⟩
    obtain ⟨e0, h3⟩ := h3
    refine ⟨e0, ?_⟩
    rcases h3 with h3 | ⟨g, cap, cur, fz, e, q1, q2, q3⟩
    · exact .inl h3
    · exact .inr ⟨g, cap, cur, fz, e, q1, (hb.block g (heap_lt q2)).trans q2, q3⟩
  exact h.elim (fun h => .inl (key _ h)) (fun h => .inr (key _ h))
theorem Bld.lt {w : World} {B b : Nat} {l : List UInt8} (h : Bld w B b l) : b < w.heap.size := by
  rcases h with ⟨_, v, hb, _⟩ | ⟨_, v, hb, _⟩ <;> exact heap_lt hb
theorem Bld.base {w : World} {B b : Nat} {l : List UInt8} (h : Bld w B b l) : B ≤ b := by
  rcases h with ⟨h, _⟩ | ⟨h, _⟩ <;> exact h
/-- What a writer leaves. -/
structure Wrote (w : World) (B b : Nat) (l : List UInt8) (w' : World) : Prop where
  bld : Bld w' B b l
  bel : Below B w w'
  oth : Lib.OthersKept 5 (some b) w w'
def WrotePost (w : World) (B b : Nat) (l : List UInt8) (v : Value) (e : Ending) (w' : World) : Prop := e = .returned v ∧ Wrote w B b l w'

theorem size_builder : (Tryz.prog.info? 95).map (·.size) = some 2 := by kernel_rfl
theorem lies_builder : liesAt Tryz.prog Tryz.prog.depth 95 (2 / Tryz.prog.cellsOf 95) 0 95 1 = true := by kernel_rfl
theorem info_byte : (Tryz.prog.info? 5).map (fun i => (i.zero, i.size, i.bytes)) = some (some (.int .u8 0), 1, 1) := by kernel_rfl

set_option maxRecDepth 100000 in
theorem check_used (b : Nat) (w : World) (h0 : w.cell? ⟨b, 0, none⟩ = some (.pointer (some ⟨b, 0, none⟩))) :
    Calls Tryz.prog 91 #[.pointer (some ⟨b, 0, none⟩)] w fun e w' => e = .returned (.tuple #[]) ∧ w' = w := by
  obtain ⟨j, hj, _⟩ := Option.map_eq_some_iff.1 size_builder
  go_enter Tryz.func91, Tryz.ntmps91
  go_wp2
  rw [Lib.run_neq_ptr_same w _ Tryz.underlying92 hj]
  go_wp2
  go_end0
  exact ⟨rfl, rfl⟩
set_option maxRecDepth 100000 in
theorem check_fresh (b : Nat) (w : World) (h0 : w.cell? ⟨b, 0, none⟩ = some (.pointer none)) (hsh : w.shape? b = some (95, 2)) (hfz : w.frozen? ⟨b, 0, none⟩ = false) :
    Calls Tryz.prog 91 #[.pointer (some ⟨b, 0, none⟩)] w fun e w' => e = .returned (.tuple #[]) ∧ w' = w.setCell ⟨b, 0, none⟩ (.pointer (some ⟨b, 0, none⟩)) := by
  obtain ⟨j, hj, hjs⟩ := Option.map_eq_some_iff.1 size_builder
  go_enter Tryz.func91, Tryz.ntmps91
  go_wp2
  rw [Lib.run_to_unsafe w ⟨b, 0, none⟩ Tryz.underlying92 Tryz.underlying140 hj (by rw [hjs]; decide) hsh (Nat.zero_lt_succ 1)]
  simp only [Result.andThen]
  rw [Oper.upon_value]
  go_wp2
  rw [run_callFunc_extern Tryz.func112 (by kernel_rfl) (by kernel_rfl) (by kernel_rfl) (e := Extern.AbiNoEscape.same) (by kernel_rfl)]
  rw [Lib.run_noEscape]
  simp only [Result.andThen]
  rw [Oper.upon_value]
  go_wp2
  rw [Lib.run_from_unsafe w ⟨b, 0, none⟩ Tryz.underlying140 Tryz.underlying92 hj hsh lies_builder]
  simp only [Result.andThen]
  rw [Oper.upon_value]
  go_wp2
  go_end0
  exact ⟨rfl, rfl⟩
def CheckPost (w : World) (B b : Nat) (bs : List Value) (e : Ending) (w' : World) : Prop := e = .returned (.tuple #[]) ∧ Lib.BuilderAtF 95 5 B b (.pointer (some ⟨b, 0, none⟩)) bs w' ∧ Below B w w' ∧ Lib.OthersKept 5 (some b) w w'
theorem check_any (B b : Nat) (bs : List Value) (w : World) (h : Lib.IsBuilderF 95 5 B b bs w) : Calls Tryz.prog 91 #[.pointer (some ⟨b, 0, none⟩)] w (CheckPost w B b bs) := by
  rcases h with h | h
  · refine (check_fresh b w h.cell0 h.shape h.frozen0).mono ?_
    rintro e w' ⟨rfl, rfl⟩
    exact ⟨rfl, h.used _, (Below.refl B w).setCell (p := ⟨b, 0, none⟩) h.1 _, (Lib.OthersKept.refl _ _ w).setCell ⟨b, 0, none⟩ rfl _⟩
  · refine (check_used b w h.cell0).mono ?_
    rintro e w' ⟨rfl, rfl⟩
    exact ⟨rfl, h, Below.refl B _, Lib.OthersKept.refl _ _ _⟩

set_option maxHeartbeats 2000000 in
set_option maxRecDepth 100000 in
theorem write_byte (B b : Nat) (l : List UInt8) (c : UInt8) (w : World) (h : Bld w B b l) (hlen : l.length + 1 ≤ 140737488355328) (hBw : B ≤ w.heap.size) :
    Calls Tryz.prog 78 #[.pointer (some ⟨b, 0, none⟩), .int .u8 c.toNat] w (WrotePost w B b (l ++ [c]) .nilIface) := by
  obtain ⟨i0, hi, hz0, hz1, hz2⟩ := info_parts info_byte
  obtain ⟨bs, hbs⟩ : ∃ x, Lib.byteCells l = x := ⟨_, rfl⟩
  have hbl : bs.length = l.length := by rw [← hbs, Lib.byteCells_length]
  unfold Bld at h
  rw [hbs] at h
  rw [← hbl] at hlen
  have HBS := Lib.hid hbs
  have H := Lib.hid h
  clear hbs hbl h
  obtain ⟨u, hu⟩ : ∃ x : Int, (c.toNat : Int) = x := ⟨_, rfl⟩
  rw [hu]
  have HU := Lib.hid hu
  clear hu
  go_enter Tryz.func78, Tryz.ntmps78
  go_wp2_with fail
  refine (check_any B b bs _ H.out).mono ?_
  rintro e w1 ⟨rfl, h1, hb1, hk1⟩
  obtain ⟨hB, v, hbk, hown, hne⟩ := h1
  have c0 : w1.cell? ⟨b, 0, none⟩ = some (.pointer (some ⟨b, 0, none⟩)) := by rw [Lib.cell_of_heap hbk]; rfl
  have c1 : w1.cell? ⟨b, 1, none⟩ = some v := by rw [Lib.cell_of_heap hbk]; rfl
  go_wp2_with (at_builtin; refine wpList_append_ownF _ rfl _ _ 93 rfl B 5 i0 (.int .u8 0) 1 1 Tryz.underlying93 hi hz0 hz1 hz2 rfl (by decide) _ _ _ rfl (hown.alloc _) ⟨w1.heap.size, 0, none⟩ 1 1 [.int .u8 u] rfl rfl ?c1 ?c2 ?c3 ?c4 ?c5 ?_)
  case c1 =>
    intro j u hj
    match j, hj with
    | 0, hj => simp at hj; subst hj; simp [Addr.add]
  case c2 => intro u hu; simp at hu; subst hu; rfl
  case c3 => unfold maxLen; omega
  case c4 => omega
  case c5 => have := hb1.size; simp; omega
  intro v' w2 hown' hgrow _
  have hlt : b < w1.heap.size := heap_lt hbk
  have hb2 : w2.heap[b]? = some (.cells #[.pointer (some ⟨b, 0, none⟩), v] 95 (0, 0)) := by
    rw [hgrow.block b (by simp; omega) (fun e => hne e.symm), Lib.alloc_old w1 _ b hlt]
    exact hbk
  have d0 : w2.cell? ⟨b, 0, none⟩ = some (.pointer (some ⟨b, 0, none⟩)) := by rw [Lib.cell_of_heap hb2]; rfl
  have d1 : w2.cell? ⟨b, 1, none⟩ = some v := by rw [Lib.cell_of_heap hb2]; rfl
  have f1 : w2.frozen? ⟨b, 1, none⟩ = false := Lib.frozen_of_heap hb2 1
  obtain ⟨g, cap, rfl⟩ : ∃ g cap, v' = .slice (some ⟨g, 0, none⟩) (bs.length + 1) cap := by
    rcases hown'.2 with ⟨_, h0⟩ | ⟨g, cap, cur, fz, hv, _⟩
    · omega
    · exact ⟨g, cap, hv⟩
  go_wp2
  go_ret
  refine ⟨rfl, ?_, ?_, ((hk1.alloc _).grown hgrow (Lib.ownsRowF_kind (hown.alloc _))).setCell ⟨b, 1, none⟩ rfl _⟩
  · have e1 : Lib.byteCells (l ++ [c]) = bs ++ [.int .u8 u] := by rw [Lib.byteCells_append, HBS.out, ← HU.out]; rfl
    unfold Bld
    rw [e1]
    exact .inr (Lib.BuilderAtF.put (T := 95) (e := 5) hB hb2 (bs' := bs ++ [.int .u8 u]) (by simpa using hown') (by decide))
  · exact ((hb1.alloc (by have := hb1.size; omega) _).grown hgrow (by have := hb1.size; simp; omega) (fun k hk => (hown.lt k hk).1)).setCell (p := ⟨b, 1, none⟩) hB _

set_option maxHeartbeats 2000000 in
set_option maxRecDepth 100000 in
theorem write_string (B b : Nat) (l t : List UInt8) (w : World) (h : Bld w B b l) (hlen : l.length + t.length ≤ 140737488355328) (hBw : B ≤ w.heap.size) :
    Calls Tryz.prog 64 #[.pointer (some ⟨b, 0, none⟩), .string (ba t)] w (WrotePost w B b (l ++ t) (.tuple #[.int .i64 (t.length : Nat), .nilIface])) := by
  obtain ⟨i0, hi, hz0, hz1, hz2⟩ := info_parts info_byte
  obtain ⟨bs, hbs⟩ : ∃ x, Lib.byteCells l = x := ⟨_, rfl⟩
  have hbl : bs.length = l.length := by rw [← hbs, Lib.byteCells_length]
  obtain ⟨s, hs⟩ : ∃ x, ba t = x := ⟨_, rfl⟩
  have hsz : s.size = t.length := by rw [← hs, ba_size]
  have hsc : Lib.strCells s = Lib.byteCells t := by rw [← hs]; rfl
  unfold Bld at h
  rw [hbs] at h
  rw [← hbl, ← hsz] at hlen
  rw [hs]
  have HBS := Lib.hid hbs
  have H := Lib.hid h
  have HSZ := Lib.hid hsz
  have HSC := Lib.hid hsc
  clear hbs hbl h hs hsz hsc
  go_enter Tryz.func64, Tryz.ntmps64
  go_wp2_with fail
  refine (check_any B b bs _ H.out).mono ?_
  rintro e w1 ⟨rfl, h1, hb1, hk1⟩
  obtain ⟨hB, v, hbk, hown, hne⟩ := h1
  have c0 : w1.cell? ⟨b, 0, none⟩ = some (.pointer (some ⟨b, 0, none⟩)) := by rw [Lib.cell_of_heap hbk]; rfl
  have c1 : w1.cell? ⟨b, 1, none⟩ = some v := by rw [Lib.cell_of_heap hbk]; rfl
  go_wp2_with (at_builtin; refine Lib.wpList_append_own_stringF _ rfl _ _ 93 9 rfl B 5 i0 Tryz.underlying93 Tryz.underlying9 hi hz0 hz1 hz2 _ _ _ rfl hown s rfl ?c3 ?c4 ?c5 ?_)
  case c3 => unfold maxLen; omega
  case c4 => omega
  case c5 => have := hb1.size; omega
  intro v' w2 hown' hgrow _
  have hlt : b < w1.heap.size := heap_lt hbk
  have hb2 : w2.heap[b]? = some (.cells #[.pointer (some ⟨b, 0, none⟩), v] 95 (0, 0)) := by
    rw [hgrow.block b hlt (fun e => hne e.symm)]
    exact hbk
  have d0 : w2.cell? ⟨b, 0, none⟩ = some (.pointer (some ⟨b, 0, none⟩)) := by rw [Lib.cell_of_heap hb2]; rfl
  have d1 : w2.cell? ⟨b, 1, none⟩ = some v := by rw [Lib.cell_of_heap hb2]; rfl
  have f1 : w2.frozen? ⟨b, 1, none⟩ = false := Lib.frozen_of_heap hb2 1
  obtain ⟨ao, n', cap, rfl⟩ : ∃ ao n' cap, v' = .slice ao n' cap := by
    rcases hown'.2 with ⟨hv, _⟩ | ⟨g, cap, cur, fz, hv, _⟩
    · exact ⟨_, _, _, hv⟩
    · exact ⟨_, _, _, hv⟩
  go_wp2
  go_ret2
  refine ⟨congrArg (fun n : Nat => Ending.returned (.tuple #[.int .i64 (n : Int), .nilIface])) HSZ.out, ?_, ?_, (hk1.grown hgrow (Lib.ownsRowF_kind hown)).setCell ⟨b, 1, none⟩ rfl _⟩
  · have e1 : Lib.byteCells (l ++ t) = bs ++ Lib.strCells s := by rw [Lib.byteCells_append, HBS.out, HSC.out]
    unfold Bld
    rw [e1]
    exact .inr (Lib.BuilderAtF.put (T := 95) (e := 5) hB hb2 (bs' := bs ++ Lib.strCells s) (by simpa [Lib.strCells_length] using hown') (by decide))
  · exact (hb1.grown hgrow (by have := hb1.size; omega) (fun k hk => (hown.lt k hk).1)).setCell (p := ⟨b, 1, none⟩) hB _

theorem bld_string (B b : Nat) (l : List UInt8) (w : World) (h : Bld w B b l) (hBw : B ≤ w.heap.size) :
    Calls Tryz.prog 65 #[.pointer (some ⟨b, 0, none⟩)] w (WrotePost w B b l (.string (ba l))) :=
  (Tryz.Builder_String_any_k B b l w h hBw).mono fun e w' ⟨he, h1, h2, h3⟩ => ⟨he, h1, h2, h3⟩
end Go.Proofs.YtomcdhmcjndioaaGreatDoor
end
section
namespace Go.Proofs.YtomcdhmcjndioaaGreatDoor
open Go.RowKit
set_option linter.unusedVariables false

theorem rune_len (r : Int) : (Lib.runeCells r).length = (Lib.encodeRune r).length ∧ (Lib.runeCells r).length ≤ 4 := by
  refine ⟨?_, (Lib.runeCells_le r).2⟩
  unfold Lib.runeCells Lib.encodeRune; simp
set_option maxHeartbeats 2000000 in
set_option maxRecDepth 100000 in
theorem write_rune (B b : Nat) (l : List UInt8) (r : Int) (w : World) (h : Bld w B b l) (hlen : l.length ≤ 100000000000000) (hBw : B ≤ w.heap.size) (hr0 : -2147483648 ≤ r) (hr1 : r ≤ 2147483647) :
    Calls Tryz.prog 79 #[.pointer (some ⟨b, 0, none⟩), .int .i32 r] w (WrotePost w B b (l ++ Lib.encodeRune r) (.tuple #[.int .i64 ((Lib.runeCells r).length : Nat), .nilIface])) := by
  obtain ⟨bs, hbs⟩ : ∃ x, Lib.byteCells l = x := ⟨_, rfl⟩
  have hbl : bs.length = l.length := by rw [← hbs, Lib.byteCells_length]
  unfold Bld at h
  rw [hbs] at h
  rw [← hbl] at hlen
  have HBS := Lib.hid hbs
  have H := Lib.hid h
  have hrl := rune_len r
  obtain ⟨k, hk⟩ : ∃ k, (Lib.runeCells r).length = k := ⟨_, rfl⟩
  rw [hk] at hrl
  have HK := Lib.hid hk
  have hk4 := hrl.2
  clear hbs hbl h hrl
  rw [hk]
  clear hk
  go_enter Tryz.func79, Tryz.ntmps79
  go_wp2_with fail
  refine (check_any B b bs _ H.out).mono ?_
  rintro e w1 ⟨rfl, h1, hb1, hk1⟩
  obtain ⟨hB, v, hbk, hown, hne⟩ := h1
  obtain ⟨ao, cap, rfl⟩ : ∃ ao cap, v = .slice ao bs.length cap := by
    rcases hown.2 with ⟨hv, h0⟩ | ⟨g, cap, cur, fz, hv, _⟩
    · exact ⟨none, 0, by rw [h0]; exact hv⟩
    · exact ⟨_, _, hv⟩
  have c0 : w1.cell? ⟨b, 0, none⟩ = some (.pointer (some ⟨b, 0, none⟩)) := by rw [Lib.cell_of_heap hbk]; rfl
  have c1 : w1.cell? ⟨b, 1, none⟩ = some (.slice ao bs.length cap) := by rw [Lib.cell_of_heap hbk]; rfl
  have HOWN := Lib.hid hown
  have HBK := Lib.hid hbk
  have HNE := Lib.hid hne
  have HB1 := Lib.hid hb1
  have HK1 := Lib.hid hk1
  have hs1 := hb1.size
  clear hown hbk hne hb1 hk1
  go_wp2_with fail
  refine (Tryz.utf8_AppendRune_row B _ bs.length bs r hr0 hr1 w1 HOWN.out (by omega) (by omega)).mono ?_
  rintro e w2 ⟨v2, rfl, hown2, o, hg⟩
  rw [HK.out] at hown2
  have hlt : b < w1.heap.size := heap_lt HBK.out
  have hb2 : w2.heap[b]? = some (.cells #[.pointer (some ⟨b, 0, none⟩), .slice ao bs.length cap] 95 (0, 0)) := by
    rw [hg.block b (by simp; omega) (fun e => HNE.out e.symm), Lib.alloc_old w1 _ b hlt]
    exact HBK.out
  obtain ⟨ao2, cap2, rfl⟩ : ∃ ao cap, v2 = .slice ao (bs.length + k) cap := by
    rcases hown2.2 with ⟨hv, h0⟩ | ⟨g, cap, cur, fz, hv, _⟩
    · exact ⟨none, 0, by rw [h0]; exact hv⟩
    · exact ⟨_, _, hv⟩
  have d0 : w2.cell? ⟨b, 0, none⟩ = some (.pointer (some ⟨b, 0, none⟩)) := by rw [Lib.cell_of_heap hb2]; rfl
  have d1 : w2.cell? ⟨b, 1, none⟩ = some (.slice ao bs.length cap) := by rw [Lib.cell_of_heap hb2]; rfl
  have f1 : w2.frozen? ⟨b, 1, none⟩ = false := Lib.frozen_of_heap hb2 1
  have hb3 : (w2.setCell ⟨b, 1, none⟩ (.slice ao2 (bs.length + k) cap2)).heap[b]? = some (.cells #[.pointer (some ⟨b, 0, none⟩), .slice ao2 (bs.length + k) cap2] 95 (0, 0)) := heap_setCell_same w2 b 1 _ 95 _ hb2
  have e1 : (w2.setCell ⟨b, 1, none⟩ (.slice ao2 (bs.length + k) cap2)).cell? ⟨b, 1, none⟩ = some (.slice ao2 (bs.length + k) cap2) := by rw [Lib.cell_of_heap hb3]; rfl
  have HOWN2 := Lib.hid hown2
  have HB2 := Lib.hid hb2
  have HG := Lib.hid hg
  clear c0 c1 hown2 hb2 hg hb3
  go_wp2
  go_ret2
  have e9 : Lib.byteCells (l ++ Lib.encodeRune r) = bs ++ Lib.runeCells r := by rw [Lib.byteCells_append, HBS.out, Lib.byteCells_encodeRune]
  refine ⟨congrArg (fun n : Int => Ending.returned (.tuple #[.int .i64 n, .nilIface])) (by omega), ?_, ?_, ((HK1.out.alloc _).grown HG.out (Lib.ownsRowF_kind (HOWN.out.alloc _))).setCell ⟨b, 1, none⟩ rfl _⟩
  · unfold Bld
    rw [e9]
    refine .inr (Lib.BuilderAtF.put (T := 95) (e := 5) hB HB2.out (bs' := bs ++ Lib.runeCells r) ?_ (by decide))
    rw [List.length_append, HK.out]; exact HOWN2.out
  · exact ((HB1.out.alloc (by omega) _).grown HG.out (by simp; omega) (fun k hk => (HOWN.out.lt k hk).1)).setCell (p := ⟨b, 1, none⟩) hB _
end Go.Proofs.YtomcdhmcjndioaaGreatDoor
end
section
namespace Go.Proofs.YtomcdhmcjndioaaGreatDoor
open Go.RowKit
set_option linter.unusedVariables false

theorem hasPrefix_any (s p : List UInt8) (w : World) : Calls Tryz.prog 77 #[.string (ba s), .string (ba p)] w fun e w' => e = .returned (.bool (decide (p <+: s))) ∧ w = w' := by
  refine (Tryz.strings_HasPrefix (ba s) (ba p) w).mono ?_
  rintro e w' ⟨rfl, rfl⟩
  refine ⟨congrArg (fun b => Ending.returned (.bool b)) ?_, rfl⟩
  rw [ba_list, ba_list, Bool.eq_iff_iff, decide_eq_true_iff]
  exact List.isPrefixOf_iff_prefix
def FoldRel (w : World) (s : ByteArray) (l : List UInt8) (pos : Nat) (wr : World) : Prop := ∃ acc, Bld wr w.heap.size w.heap.size acc ∧ wr.heap[w.heap.size + 1]? = some (.stringIter s pos) ∧ Below w.heap.size w wr ∧ acc ++ foldP (l.drop pos) = foldP l ∧ acc.length = pos
set_option maxRecDepth 100000 in
set_option maxHeartbeats 4000000 in
theorem fold_any (l : List UInt8) (w : World) (hs : fSpans w w.heap.size) (hl : l.length ≤ 1000000000) : Calls Tryz.prog 54 #[.string (ba l)] w (StrPost w (foldP l)) := by
  obtain ⟨s, hse⟩ : ∃ s, ba l = s := ⟨_, rfl⟩
  have hsz : s.size = l.length := by rw [← hse, ba_size]
  rw [hse]
  have HS := Lib.hid hse
  have HSZ := Lib.hid hsz
  have HSP := Lib.hid hs
  rw [← hsz] at hl
  clear hse hsz hs
  go_enter Tryz.func54, Tryz.ntmps54
  go_wp2
  go_loopw [] (fun wr => ∃ pos : Nat, pos ≤ s.size ∧ Hid (FoldRel w s l pos wr)) (fun wr => s.size - wr.iterPos (w.heap.size + 1))
  case atStart =>
    refine ⟨0, Nat.zero_le _, [], (bld_new w).alloc _, ?_, ((Below.refl _ w).alloc (Nat.le_refl _) _).alloc (by simp) _, rfl, rfl⟩
    have := World.iter_heap (w.alloc (.cells #[.pointer none, .slice none 0 0] 95)) s 0
    simpa using this
  case round =>
    obtain ⟨pos, hpos, HR⟩ := hrel
    obtain ⟨acc, hbld, hit, hbw, hacc, hal⟩ := HR.out
    have hszr : w.heap.size + 1 < wr.heap.size := heap_lt hit
    by_cases hp : pos < s.size
    · have hne : l.drop pos ≠ [] := by intro e; have := congrArg List.length e; rw [List.length_drop, ← HSZ.out] at this; simp at this; omega
      have hnx0 : ∀ ty, (Instr.next (.pointer (some ⟨w.heap.size + 1, 0, none⟩)) true ty).run Tryz.prog wr = _ := fun ty => Lib.run_next_any_at wr (w.heap.size + 1) s pos ty hit hp
      have hdec : Utf8.decode s pos = uN (l.drop pos) := by rw [← HS.out]; exact uN_at l pos
      have hup := uN_pos _ hne
      have hstep := step_fold hne
      have hfc := foldP_cons hne
      have hful := foldU_len _ hne
      rw [List.drop_drop] at hfc
      obtain ⟨⟨r, n⟩, hrn⟩ : ∃ q, uN (l.drop pos) = q := ⟨_, rfl⟩
      rw [hrn] at hdec hup hstep hfc hful
      rw [hdec] at hnx0
      dsimp only at hup hstep hfc hful hnx0
      rw [List.length_drop, ← HSZ.out] at hup
      have hbld2 : Bld (wr.iterAt (w.heap.size + 1) s (pos + n)) w.heap.size w.heap.size acc := Lib.IsBuilderF.iterAt hbld hit (pos + n)
      have hit2 := Lib.iterAt_heap wr (w.heap.size + 1) s pos (pos + n) hit
      have hbw2 := Lib.below_iterAt hbw (k := w.heap.size + 1) (by omega) s (pos + n)
      have hsz2 : w.heap.size ≤ (wr.iterAt (w.heap.size + 1) s (pos + n)).heap.size := by rw [Lib.iterAt_size]; omega
      obtain ⟨W, hW⟩ : ∃ W, wr.iterAt (w.heap.size + 1) s (pos + n) = W := ⟨_, rfl⟩
      rw [hW] at hnx0 hbld2 hit2 hbw2 hsz2
      have hnx := hnx0
      have HBLD := Lib.hid hbld2
      have HIT := Lib.hid hit2
      have HBW := Lib.hid hbw2
      have HACC := Lib.hid (show ∀ u, u = foldU (l.drop pos) → (acc ++ u) ++ foldP (l.drop (pos + n)) = foldP l ∧ (acc ++ u).length = pos + n from fun u hu => by
        subst hu
        refine ⟨by rw [← hacc, hfc, List.append_assoc], by rw [List.length_append, hal, hful]⟩)
      have HST := Lib.hid hstep
      have HAL := Lib.hid hal
      have HIT0 := Lib.hid hit
      clear hnx0 hrn hdec hbld hbld2 hit2 hbw2 hacc hfc hful hstep HR hbw hal hit hW
      have hi0 : (0 : Int) ≤ (pos : Int) := by omega
      have hi1 : (pos : Int) < (s.size : Int) := by omega
      by_cases hr : r = 65533
      · have hreq : ((r : Int) == 65533) = true := by simp [hr]
        have HRR := Lib.hid hr
        clear hr
        have hcut : s.extract pos s.size = ba (l.drop pos) := by rw [← HS.out]; exact ba_drop _ _
        have HCUT := Lib.hid hcut
        clear hcut
        go_wp2_with fail
        rw [HCUT.out]
        refine (hasPrefix_any (l.drop pos) [239, 191, 189] W).mono ?_
        rintro e w4 ⟨rfl, rfl⟩
        by_cases hpre : [239, 191, 189] <+: l.drop pos
        · rw [decide_eq_true hpre]
          have HU := Lib.hid (show Lib.encodeRune (rlower r) = foldU (l.drop pos) by rw [← HST.out, if_neg (fun h => h.2 hpre)])
          clear hpre
          go_wp2_with fail
          refine (lower_any r W ((HSP.out.below HBW.out).more HBW.out.size) (by omega) (by omega)).mono ?_
          rintro e w5 ⟨rfl, hb5⟩
          have hlw := rlower_low (r := (r : Int)) (by omega)
          have HB5 := Lib.hid (HBLD.out.below hb5)
          have HI5 := Lib.hid ((hb5.block _ (heap_lt HIT.out)).trans HIT.out)
          have HW5 := Lib.hid (HBW.out.trans (hb5.mono HBW.out.size))
          have hs5 : w.heap.size ≤ w5.heap.size := Nat.le_trans HBW.out.size hb5.size
          clear hb5
          go_wp2_with fail
          refine (write_rune w.heap.size w.heap.size acc (rlower r) w5 HB5.out (by have := HAL.out; omega) hs5 (by omega) (by omega)).mono ?_
          rintro e w6 ⟨rfl, h6⟩
          have HF := Lib.hid (show w6.heap[w.heap.size + 1]? = some (.stringIter s (pos + n)) ∧ FoldRel w s l (pos + n) w6 from ⟨h6.oth.iter HI5.out (by omega), _, h6.bld, h6.oth.iter HI5.out (by omega), HW5.out.trans h6.bel, (HACC.out _ HU.out).1, (HACC.out _ HU.out).2⟩)
          clear h6
          go_wp2
          go_roundw
          case rel => exact ⟨pos + n, by omega, HF.out.2⟩
          case measure =>
            simp only [World.iterPos, HF.out.1, HIT0.out]
            omega
        · rw [decide_eq_false hpre]
          have HU := Lib.hid (show (l.drop pos).take 1 = foldU (l.drop pos) by rw [← HST.out, if_pos ⟨HRR.out, hpre⟩])
          clear hpre
          have hge : s[pos]'hp = l[pos]'(by rw [← HSZ.out]; exact hp) := by have := HS.out; subst this; rfl
          have HGE := Lib.hid hge
          clear hge
          go_wp2_with fail
          refine (write_byte w.heap.size w.heap.size acc (s[pos]'hp) W HBLD.out (by have := HAL.out; omega) HBW.out.size).mono ?_
          rintro e w6 ⟨rfl, h6⟩
          have HU1 := Lib.hid (show [s[pos]'hp] = foldU (l.drop pos) by rw [← HU.out, HGE.out, List.drop_eq_getElem_cons (by rw [← HSZ.out]; exact hp)]; rfl)
          have HF := Lib.hid (show w6.heap[w.heap.size + 1]? = some (.stringIter s (pos + n)) ∧ FoldRel w s l (pos + n) w6 from ⟨h6.oth.iter HIT.out (by omega), _, h6.bld, h6.oth.iter HIT.out (by omega), HBW.out.trans h6.bel, (HACC.out _ HU1.out).1, (HACC.out _ HU1.out).2⟩)
          clear h6
          go_wp2
          go_roundw
          case rel => exact ⟨pos + n, by omega, HF.out.2⟩
          case measure =>
            simp only [World.iterPos, HF.out.1, HIT0.out]
            omega
      · have hreq : ((r : Int) == 65533) = false := by simp; omega
        have HU := Lib.hid (show Lib.encodeRune (rlower r) = foldU (l.drop pos) by rw [← HST.out, if_neg (fun h => hr h.1)])
        go_wp2_with fail
        refine (lower_any r W ((HSP.out.below HBW.out).more HBW.out.size) (by omega) (by omega)).mono ?_
        rintro e w5 ⟨rfl, hb5⟩
        have hlw := rlower_low (r := (r : Int)) (by omega)
        have HB5 := Lib.hid (HBLD.out.below hb5)
        have HI5 := Lib.hid ((hb5.block _ (heap_lt HIT.out)).trans HIT.out)
        have HW5 := Lib.hid (HBW.out.trans (hb5.mono HBW.out.size))
        have hs5 : w.heap.size ≤ w5.heap.size := Nat.le_trans HBW.out.size hb5.size
        clear hb5
        go_wp2_with fail
        refine (write_rune w.heap.size w.heap.size acc (rlower r) w5 HB5.out (by have := HAL.out; omega) hs5 (by omega) (by omega)).mono ?_
        rintro e w6 ⟨rfl, h6⟩
        have HF := Lib.hid (show w6.heap[w.heap.size + 1]? = some (.stringIter s (pos + n)) ∧ FoldRel w s l (pos + n) w6 from ⟨h6.oth.iter HI5.out (by omega), _, h6.bld, h6.oth.iter HI5.out (by omega), HW5.out.trans h6.bel, (HACC.out _ HU.out).1, (HACC.out _ HU.out).2⟩)
        clear h6
        go_wp2
        go_roundw
        case rel => exact ⟨pos + n, by omega, HF.out.2⟩
        case measure =>
          simp only [World.iterPos, HF.out.1, HIT0.out]
          omega
    · have hnx : ∀ ty, (Instr.next (.pointer (some ⟨w.heap.size + 1, 0, none⟩)) true ty).run Tryz.prog wr = _ := fun ty => Lib.run_next_end_at wr (w.heap.size + 1) s pos ty hit hp
      have HBLD := Lib.hid hbld
      have HBW := Lib.hid hbw
      have HF := Lib.hid (show acc = foldP l by
        rw [← hacc, List.drop_of_length_le (by rw [← HSZ.out]; omega)]; simp [foldP_nil])
      clear hbld hbw hacc hal hit HR
      go_wp2_with fail
      refine (bld_string w.heap.size w.heap.size acc wr HBLD.out HBW.out.size).mono ?_
      rintro e w6 ⟨rfl, h6⟩
      have H6 := Lib.hid (HBW.out.trans h6.bel)
      clear h6
      go_wp2
      go_ret
      exact ⟨by rw [HF.out]; rfl, H6.out⟩
end Go.Proofs.YtomcdhmcjndioaaGreatDoor
end
