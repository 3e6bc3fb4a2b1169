/- Layer 14: the contract of read (a part of a message). -/
import Derived.Test.YthidbmeaccpjdaaGreatDoorM18
import Derived.Test.YthidbmeaccpjdaaGreatDoorM08
import Derived.Test.YthidbmeaccpjdaaGreatDoorM33
import Derived.Test.YthidbmeaccpjdaaGreatDoorM40
import Derived.Test.YthidbmeaccpjdaaGreatDoorM30
import Derived.Test.YthidbmeaccpjdaaGreatDoorM06
import Derived.Test.YthidbmeaccpjdaaGreatDoorM10
namespace Go.Proofs.YthidbmeaccpjdaaGreatDoor
open Go.RowKit
set_option linter.unusedVariables false
set_option maxHeartbeats 4000000
theorem fldP_len (raw : List UInt8) : (fldP raw).name.length ≤ raw.length ∧ (fldP raw).value.length ≤ raw.length := by
 unfold fldP
 cases h : cutP 58 (nudeP (raw.take (endP raw))) with
 | none => exact ⟨Nat.zero_le _, Nat.zero_le _⟩
 | some q =>
  dsimp only
  split
  ·have h1 := congrArg List.length (cutP_some (a := q.1) (b := q.2) h).1
   have h2 := nudeP_len (raw.take (endP raw))
   have h3 := trimR_len q.1
   have h4 := nudeP_len (raw.drop (q.1.length + 1))
   rw [List.length_append, List.length_cons] at h1
   rw [List.length_take] at h2
   rw [List.length_drop] at h4
   exact ⟨by show (Lib.trimRightS q.1 blanksP).length ≤ _; omega, by show (nudeP _).length ≤ _; omega⟩
  ·exact ⟨Nat.zero_le _, Nat.zero_le _⟩
theorem headF_ok : ∀ (f : Nat) (l : List UInt8), (∀ x ∈ (headF f l).1, x.name.length ≤ l.length ∧ x.value.length ≤ l.length) ∧ (headF f l).1.length ≤ l.length ∧ (headF f l).2 ≤ l.length
 | 0, l => ⟨fun x h => (by cases h), Nat.zero_le _, Nat.zero_le _⟩
 | f + 1, l => by
  unfold headF
  by_cases hl : l = []
  ·rw [if_pos hl]
   exact ⟨fun x h => (by cases h), Nat.zero_le _, Nat.zero_le _⟩
  ·rw [if_neg hl]
   have h2 := endP_le l
   have h3 := endP_pos hl
   split
   ·exact ⟨fun x h => (by cases h), Nat.zero_le _, h2⟩
   ·have h4 := moreP_le l.length (l.drop (endP l))
    rw [List.length_drop] at h4
    obtain ⟨i1, i2, i3⟩ := headF_ok f (l.drop (endP l + moreP l.length (l.drop (endP l))))
    rw [List.length_drop] at i2 i3
    refine ⟨fun x hx => ?_, ?_, ?_⟩
    ·rcases List.mem_cons.1 hx with rfl | hx
     ·have := fldP_len (l.take (endP l + moreP l.length (l.drop (endP l))))
      rw [List.length_take] at this
      omega
     ·have := i1 x hx
      rw [List.length_drop] at this
      omega
    ·show (_ :: _).length ≤ _
     rw [List.length_cons]
     omega
    ·show _ + _ ≤ _
     omega
theorem headP_ok (l : List UInt8) : (∀ x ∈ (headP l).1, x.name.length ≤ l.length ∧ x.value.length ≤ l.length) ∧ (headP l).1.length ≤ l.length ∧ (headP l).2 ≤ l.length := headF_ok _ l
theorem trimS_len (l : List UInt8) : (Lib.trimS l blanksP).length ≤ l.length := by
 unfold Lib.trimS Lib.trimLeftS
 exact Nat.le_trans (List.dropWhile_suffix _).length_le (trimR_len l)
theorem getP_len {l : List Fld} {name v : List UInt8} {N : Nat} (h : ∀ x ∈ l, x.value.length ≤ N) (hv : getP l name = some v) : v.length ≤ N := by
 unfold getP at hv
 obtain ⟨x, hx, rfl⟩ := Option.map_eq_some_iff.1 hv
 have h1 := h x (List.mem_of_find?_eq_some hx)
 have h2 := trimS_len (unfoldP x.value)
 have h3 := unfoldP_len x.value
 omega
theorem getD_len {o : Option (List UInt8)} {N : Nat} (h : ∀ v, o = some v → v.length ≤ N) : (o.getD []).length ≤ N := by
 cases o with
 | none => exact Nat.zero_le _
 | some v => exact h v rfl
def prtW (p : Prt) (v : Value) : Value := .agg #[.int .i64 p.up, .int .i64 p.depth, .int .i64 p.start, .int .i64 p.body, .int .i64 p.stop, .string (ba p.typ.kind), .string (ba p.typ.sub), v, .string (ba p.code)]
def PrtPost (w : World) (p : Prt) (e : Ending) (w' : World) : Prop := ∃ v, e = .returned (prtW p v) ∧ OwnPars w' w.heap.size v p.typ.params ∧ Below w.heap.size w w'
def PBox (W : World) (b : Nat) (p : Prt) (v : Value) : Prop := W.heap[b]? = some (.cells #[.int .i64 p.up, .int .i64 p.depth, .int .i64 p.start, .int .i64 p.body, .int .i64 p.stop, .string (ba p.typ.kind), .string (ba p.typ.sub), v, .string (ba p.code)] 26 (0, 0))
theorem PBox.typ {W : World} {b : Nat} {p : Prt} {v : Value} (h : PBox W b p v) (K S : List UInt8) (ps : List (List UInt8 × List UInt8)) (u : Value) : PBox (((W.setCell ⟨b, 5, none⟩ (.string (ba K))).setCell ⟨b, 6, none⟩ (.string (ba S))).setCell ⟨b, 7, none⟩ u) b ⟨p.up, p.depth, p.start, p.body, p.stop, ⟨K, S, ps⟩, p.code⟩ u := by
 have h1 := heap_setCell_same W b 5 _ _ (.string (ba K)) h
 have h2 := heap_setCell_same _ b 6 _ _ (.string (ba S)) h1
 have h3 := heap_setCell_same _ b 7 _ _ u h2
 unfold PBox
 simpa using h3
theorem PBox.code {W : World} {b : Nat} {p : Prt} {v : Value} (h : PBox W b p v) (c : List UInt8) : PBox (W.setCell ⟨b, 8, none⟩ (.string (ba c))) b ⟨p.up, p.depth, p.start, p.body, p.stop, p.typ, c⟩ v := by
 have h1 := heap_setCell_same W b 8 _ _ (.string (ba c)) h
 unfold PBox
 simpa using h1
theorem PBox.below {W W' : World} {b : Nat} {p : Prt} {v : Value} (h : PBox W b p v) (hb : Below W.heap.size W W') : PBox W' b p v := (hb.block b (heap_lt h)).trans h
theorem own_set1 {W : World} {C k i : Nat} {v a : Value} {ps : List (List UInt8 × List UInt8)} (h : OwnPars W C v ps) (hk : k < C) : OwnPars (W.setCell ⟨k, i, none⟩ a) C v ps :=
 h.block fun q e => heap_setCell_other W ⟨k, i, none⟩ q a (by have := (h.row.lt q e).1; show q ≠ k; omega)
theorem prt_fin {w w' : World} {q p : Prt} {v : Value} (h : q = p) (ho : OwnPars w' w.heap.size v p.typ.params) (hb : Below w.heap.size w w') : PrtPost w q (.returned (prtW p v)) w' := by
 subst h
 exact ⟨v, rfl, ho, hb⟩
def zPart : Obj := .cells #[.int .i64 0, .int .i64 0, .int .i64 0, .int .i64 0, .int .i64 0, .string ⟨#[]⟩, .string ⟨#[]⟩, .slice none 0 0, .string ⟨#[]⟩] 26 (0, 0)
structure RdSt (w : World) (A : Option Addr) (m : Nat) (fs : List Fld) (b : Nat) (p : Prt) (v : Value) (W : World) : Prop where
 box : PBox W b p v
 low : w.heap.size < b
 res : W.heap[w.heap.size]? = some zPart
 own : OwnPars W (b + 1) v p.typ.params
 bel : Below w.heap.size w W
 fld : Flds W b A m fs
theorem RdSt.below {w W W' : World} {A : Option Addr} {m : Nat} {fs : List Fld} {b : Nat} {p : Prt} {v : Value} (h : RdSt w A m fs b p v W) (hb : Below W.heap.size W W') : RdSt w A m fs b p v W' :=
 ⟨h.box.below hb, h.low, (hb.block _ (heap_lt h.res)).trans h.res, h.own.below hb, h.bel.trans (hb.mono h.bel.size), h.fld.below (hb.mono (Nat.le_of_lt (heap_lt h.box)))⟩
theorem RdSt.flds {w W : World} {A : Option Addr} {m : Nat} {fs : List Fld} {b : Nat} {p : Prt} {v : Value} (h : RdSt w A m fs b p v W) : Flds W W.heap.size A m fs := h.fld.more (Nat.le_of_lt (heap_lt h.box))
theorem codeP_nil {v : List UInt8} (h : bareP (scanP v) = []) : codeP v = [] := by unfold codeP; rw [h]
theorem codeP_cons {v : List UInt8} {t : Tok} {r : List Tok} (h : bareP (scanP v) = t :: r) : codeP v = if t.kind = 1 then smallP t.text else [] := by unfold codeP; rw [h]
theorem tok_text {v : List UInt8} {t : Tok} {r : List Tok} (h : bareP (scanP v) = t :: r) : t.text.length ≤ v.length := by
 have h1 := bareP_join (scanP v)
 have h2 : (joinP (scanP v)).length ≤ v.length := scanF_join _ v
 rw [h, joinP_cons] at h1
 omega
set_option maxRecDepth 100000 in
theorem read_any (s : List UInt8) (up depth : Int) (i j : Nat) (digest : Bool) (w : World) (hs : s.length ≤ 10000000) (hij : i ≤ j) (hj : j ≤ s.length) (hT : Tabs w) :
  Calls Tryz.prog 35 #[.string (ba s), .int .i64 up, .int .i64 depth, .int .i64 (i : Int), .int .i64 (j : Int), .bool digest] w (PrtPost w (readPt s up depth i j digest)) := by
 have HT := Lib.hid hT
 obtain ⟨l, hl⟩ : ∃ l, (s.take j).drop i = l := ⟨_, rfl⟩
 have hll : l.length ≤ s.length := by rw [← hl, List.length_drop, List.length_take]; omega
 have hex : (ba s).extract i j = ba l := by rw [ba_cut, hl]
 have HX := Lib.hid hex
 have HF := Lib.hid (show readPt s up depth i j digest = ⟨up, depth, i, (i + (headP l).2 : Nat), j, kindP14 (headP l).1 digest, codeP ((getP (headP l).1 cteName).getD [])⟩ by unfold readPt; rw [hl])
 obtain ⟨ok1, ok2, ok3⟩ := headP_ok l
 have HPA := Lib.hid (fun W hW => hparse_any l W (by omega) hW)
 obtain ⟨⟨fs, k⟩, hq⟩ : ∃ q, headP l = q := ⟨_, rfl⟩
 rw [hq] at HF ok1 ok2 ok3
 simp only [hq] at HPA
 dsimp only at HF ok1 ok2 ok3
 unfold HeadPost at HPA
 have hsz : ((ba s).size : Int) = (s.length : Int) := by rw [ba_size]
 have hki : (k : Int) ≤ 10000000 := by omega
 have hk0 : (0 : Int) ≤ (k : Int) := by omega
 have hii : (i : Int) ≤ 10000000 := by omega
 have hi0 : (0 : Int) ≤ (i : Int) := by omega
 have hijI : (i : Int) ≤ (j : Int) := by omega
 have hj2 : (j : Int) ≤ (s.length : Int) := by omega
 have HOK := Lib.hid (show ∀ f ∈ fs, f.name.length ≤ 1000000000 ∧ f.value.length ≤ 1000000000 from fun f hf => by have := ok1 f hf; omega)
 have HVL := Lib.hid (show ∀ f ∈ fs, f.value.length ≤ 10000000 from fun f hf => by have := ok1 f hf; omega)
 have HFN := Lib.hid (show fs.length ≤ 1000000000 by omega)
 clear hq hl hex ok1 ok2 ok3 hT hll
 go_enter Tryz.func35, Tryz.ntmps35
 have HB0 := Lib.hid (show ∀ o, Below w.heap.size w (w.alloc o) from fun o => (Below.refl _ _).alloc (Nat.le_refl _) o)
 go_wp2_with fail
 rw [HX.out]
 refine (HPA.out _ (HT.out.below (HB0.out _))).mono ?_
 rintro e w1 ⟨v, rfl, hown, hb1⟩
 obtain ⟨A, c, rfl, -, -, hF1⟩ := hown.reads
 obtain ⟨m, hm⟩ : ∃ m, fs.length = m := ⟨_, rfl⟩
 rw [hm] at hF1 HFN ⊢
 have HB1 := Lib.hid ((HB0.out (.cells #[.int .i64 0, .int .i64 0, .int .i64 0, .int .i64 0, .int .i64 0, .string ⟨#[]⟩, .string ⟨#[]⟩, .slice none 0 0, .string ⟨#[]⟩] 26)).trans (hb1.mono (HB0.out _).size))
 have HRES := Lib.hid (show w1.heap[w.heap.size]? = some zPart from (hb1.block _ (by simp)).trans (MapKept.heap_alloc w _).1)
 have HF1 := Lib.hid hF1
 have hlt1 : w.heap.size < w1.heap.size := heap_lt HRES.out
 have hikI : (0 : Int) ≤ (i : Int) + (k : Int) := by omega
 clear hown hb1 hF1 hm HPA
 obtain ⟨P0, hP0⟩ : ∃ p : Prt, (⟨up, depth, i, (i + k : Nat), j, ⟨[], [], []⟩, []⟩ : Prt) = p := ⟨_, rfl⟩
 have HST := Lib.hid (show RdSt w A m fs w1.heap.size P0 (.slice none 0 0) (w1.alloc (.cells #[.int .i64 up, .int .i64 depth, .int .i64 (i : Int), .int .i64 ((i : Int) + (k : Int)), .int .i64 (j : Int), .string ⟨#[]⟩, .string ⟨#[]⟩, .slice none 0 0, .string ⟨#[]⟩] 26)) from by
  subst hP0
  refine ⟨?_, hlt1, (Go.RowKit.Below.heap_alloc _ _ _ hlt1).trans HRES.out, OwnPars.nil_ _ _, HB1.out.alloc HB1.out.size _, HF1.out.below ((Below.refl _ _).alloc (Nat.le_refl _) _)⟩
  exact (MapKept.heap_alloc w1 _).1)
 go_wp2_with fail
 obtain ⟨b, hb⟩ : ∃ b, w1.heap.size = b := ⟨_, rfl⟩
 obtain ⟨W2, hW2⟩ : ∃ W, (w1.alloc (.cells #[.int .i64 up, .int .i64 depth, .int .i64 (i : Int), .int .i64 ((i : Int) + (k : Int)), .int .i64 (j : Int), .string ⟨#[]⟩, .string ⟨#[]⟩, .slice none 0 0, .string ⟨#[]⟩] 26)) = W := ⟨_, rfl⟩
 rw [hW2, hb] at HST
 rw [hW2, hb]
 have HWT := Lib.hid (fun W (h : Below w.heap.size w W) => HT.out.below h)
 clear hW2 hb HF1 HRES hlt1 HB1 HX
 have HG1 := Lib.hid (show Calls Tryz.prog 75 #[.slice A m c, .string ⟨#[99, 111, 110, 116, 101, 110, 116, 45, 116, 121, 112, 101]⟩] W2 (GetPost9 W2 (getP fs ctName)) from hget_any fs A m c ctName W2 HST.out.flds HFN.out HOK.out (by decide) (HWT.out _ HST.out.bel))
 have HKD := Lib.hid (show kindP14 fs digest = if (getP fs ctName).isSome = true ∨ digest = false then (parseT ((getP fs ctName).getD [])).1 else ⟨wMessage, wRfc, []⟩ from rfl)
 have hol : ((getP fs ctName).getD []).length ≤ 10000000 := getD_len fun v hv => getP_len HVL.out hv
 obtain ⟨o, ho⟩ : ∃ o, getP fs ctName = o := ⟨_, rfl⟩
 rw [ho] at HG1 HKD hol
 unfold GetPost9 at HG1
 clear ho
 refine HG1.out.mono ?_
 rintro e W3 ⟨rfl, hb3⟩
 have HS3 := Lib.hid (HST.out.below hb3)
 obtain ⟨y, hy⟩ : ∃ y, o.getD [] = y := ⟨_, rfl⟩
 rw [hy] at hol HKD ⊢
 obtain ⟨x, hx⟩ : ∃ x, o.isSome = x := ⟨_, rfl⟩
 rw [hx] at HKD ⊢
 clear hb3 hx hy HG1 HST
 cases x with
 | true =>
  go_wp2_with fail
  refine (parse_any y W3 hol (HWT.out _ HS3.out.bel)).mono ?_
  rintro e W4 ⟨v, rfl, hov, hb4⟩
  have HS4 := Lib.hid (HS3.out.below hb4)
  obtain ⟨⟨⟨K, S, ps⟩, pb⟩, hpt⟩ : ∃ q, parseT y = q := ⟨_, rfl⟩
  rw [hpt] at HKD hov
  dsimp only at HKD hov
  rw [hpt]
  dsimp only
  obtain ⟨TA, tc, rfl, -, -, -⟩ := hov.reads
  obtain ⟨tn, htn⟩ : ∃ t, ps.length = t := ⟨_, rfl⟩
  have HOV := Lib.hid (hov.more (B' := b + 1) (heap_lt HS3.out.box))
  rw [htn] at HOV ⊢
  clear hov hb4 hpt hol htn
  have HKV := Lib.hid (show kindP14 fs digest = ⟨K, S, ps⟩ by rw [HKD.out]; simp)
  have c5 := cells_at HS4.out.box 5 rfl
  have c6 := cells_at HS4.out.box 6 rfl
  have c7 := cells_at HS4.out.box 7 rfl
  have q5 := cells_free HS4.out.box 5
  have q6 := cells_free HS4.out.box 6
  have q7 := cells_free HS4.out.box 7
  obtain ⟨P1, hP1⟩ : ∃ p : Prt, (⟨P0.up, P0.depth, P0.start, P0.body, P0.stop, ⟨K, S, ps⟩, P0.code⟩ : Prt) = p := ⟨_, rfl⟩
  have HF1 := Lib.hid (show readPt s up depth i j digest = ⟨P1.up, P1.depth, P1.start, P1.body, P1.stop, P1.typ, codeP ((getP fs cteName).getD [])⟩ by rw [HF.out, HKV.out, ← hP1, ← hP0])
  have HC1 := Lib.hid (show P1.code = [] by rw [← hP1, ← hP0])
  have HS5' := Lib.hid (show RdSt w A m fs b P1 (.slice TA tn tc) (((W4.setCell ⟨b, 5, none⟩ (.string (ba K))).setCell ⟨b, 6, none⟩ (.string (ba S))).setCell ⟨b, 7, none⟩ (.slice TA tn tc)) from by
   have h := HS4.out
   have hlo : w.heap.size ≠ b := by have := h.low; omega
   refine ⟨by rw [← hP1]; exact h.box.typ K S ps (.slice TA tn tc), h.low, ?_, ?_, ((h.bel.setCell (Nat.le_of_lt h.low) _).setCell (Nat.le_of_lt h.low) _).setCell (Nat.le_of_lt h.low) _, ?_⟩
   ·rw [heap_setCell_other _ ⟨b, 7, none⟩ _ _ hlo, heap_setCell_other _ ⟨b, 6, none⟩ _ _ hlo, heap_setCell_other _ ⟨b, 5, none⟩ _ _ hlo]
    exact h.res
   ·rw [← hP1]
    exact own_set1 (own_set1 (own_set1 HOV.out (by omega)) (by omega)) (by omega)
   ·exact h.fld.below ((((Below.refl b W4).setCell (p := ⟨b, 5, none⟩) (Nat.le_refl b) _).setCell (p := ⟨b, 6, none⟩) (Nat.le_refl b) _).setCell (p := ⟨b, 7, none⟩) (Nat.le_refl b) _))
  obtain ⟨W5, hW5⟩ : ∃ W, ((W4.setCell ⟨b, 5, none⟩ (.string (ba K))).setCell ⟨b, 6, none⟩ (.string (ba S))).setCell ⟨b, 7, none⟩ (.slice TA tn tc) = W := ⟨_, rfl⟩
  have HS5 := Lib.hid (show RdSt w A m fs b P1 (.slice TA tn tc) W5 by rw [← hW5]; exact HS5'.out)
  go_wp2_with fail
  clear hW5 HS5' HS4 HOV c5 c6 c7 q5 q6 q7 HS3
  have HG2 := Lib.hid (show Calls Tryz.prog 75 #[.slice A m c, .string ⟨#[99, 111, 110, 116, 101, 110, 116, 45, 116, 114, 97, 110, 115, 102, 101, 114, 45, 101, 110, 99, 111, 100, 105, 110, 103]⟩] W5 (GetPost9 W5 (getP fs cteName)) from hget_any fs A m c cteName W5 HS5.out.flds HFN.out HOK.out (by decide) (HWT.out _ HS5.out.bel))
  have hzl : ((getP fs cteName).getD []).length ≤ 10000000 := getD_len fun v hv => getP_len HVL.out hv
  unfold GetPost9 at HG2
  obtain ⟨z, hz⟩ : ∃ z, (getP fs cteName).getD [] = z := ⟨_, rfl⟩
  rw [hz] at HG2 hzl
  have HF2 := Lib.hid (show readPt s up depth i j digest = ⟨P1.up, P1.depth, P1.start, P1.body, P1.stop, P1.typ, codeP z⟩ by rw [HF1.out, hz])
  have HZL := Lib.hid hzl
  clear hz hzl
  refine HG2.out.mono ?_
  rintro e W6 ⟨rfl, hb6⟩
  have HS6 := Lib.hid (HS5.out.below hb6)
  clear hb6
  go_wp2_with fail
  refine (scan_any z W6 (by have := HZL.out; omega)).mono ?_
  rintro e W7 ⟨sv, rfl, hsv, hb7⟩
  obtain ⟨SA, sc, rfl, -, -, hST⟩ := hsv.reads
  have HS7 := Lib.hid (HS6.out.below hb7)
  have HSL := Lib.hid (show (scanP z).length ≤ 1000000000 by have := scanP_len z; have := HZL.out; omega)
  clear hsv hb7
  go_wp2_with fail
  refine (bare_any (scanP z) SA _ sc W7 hST HSL.out).mono ?_
  rintro e W8 ⟨bv, rfl, hbv, hb8⟩
  obtain ⟨BA, bc, rfl, -, -, hBT⟩ := hbv.reads
  have HS8 := Lib.hid (HS7.out.below hb8)
  clear hbv hb8 hST
  have c0 := cells_at HS8.out.box 0 rfl
  have c1 := cells_at HS8.out.box 1 rfl
  have c2 := cells_at HS8.out.box 2 rfl
  have c3 := cells_at HS8.out.box 3 rfl
  have c4 := cells_at HS8.out.box 4 rfl
  have c5 := cells_at HS8.out.box 5 rfl
  have c6 := cells_at HS8.out.box 6 rfl
  have c7 := cells_at HS8.out.box 7 rfl
  have c8 := cells_at HS8.out.box 8 rfl
  rw [HC1.out] at c8
  have q8 := cells_free HS8.out.box 8
  have hlow := HS8.out.low
  cases hbs : bareP (scanP z) with
  | nil =>
   rw [hbs] at hBT
   have HC := Lib.hid (show readPt s up depth i j digest = ⟨P1.up, P1.depth, P1.start, P1.body, P1.stop, P1.typ, []⟩ by rw [HF2.out, codeP_nil hbs])
   clear hBT hbs q8
   have p0 := cells_at HS8.out.res 0 (u := .int .i64 0) rfl
   have p1 := cells_at HS8.out.res 1 (u := .int .i64 0) rfl
   have p2 := cells_at HS8.out.res 2 (u := .int .i64 0) rfl
   have p3 := cells_at HS8.out.res 3 (u := .int .i64 0) rfl
   have p4 := cells_at HS8.out.res 4 (u := .int .i64 0) rfl
   have p5 := cells_at HS8.out.res 5 (u := .string ⟨#[]⟩) rfl
   have p6 := cells_at HS8.out.res 6 (u := .string ⟨#[]⟩) rfl
   have p7 := cells_at HS8.out.res 7 (u := .slice none 0 0) rfl
   have p8 := cells_at HS8.out.res 8 (u := .string ⟨#[]⟩) rfl
   have qq := fun i => cells_free HS8.out.res i
   have q0 := qq 0
   have q1 := qq 1
   have q2 := qq 2
   have q3 := qq 3
   have q4 := qq 4
   have q5 := qq 5
   have q6 := qq 6
   have q7 := qq 7
   have q9 := qq 8
   clear qq
   go_wp2
   refine bodyPost_ret (v := prtW ⟨P1.up, P1.depth, P1.start, P1.body, P1.stop, P1.typ, []⟩ (.slice TA tn tc)) (by simp [prtW, results, Tryz.results35, go_sem, p0, p1, p2, p3, p4, p5, p6, p7, p8]; try rfl) rfl ?_
   refine prt_fin HC.out ?_ ?_
   ·refine OwnPars.more (B := b + 1) ?_ (by omega)
    repeat (first | with_reducible exact HS8.out.own | refine own_set1 ?_ (by omega))
   ·repeat (first | with_reducible exact HS8.out.bel | refine Below.setCell ?_ (by first | exact Nat.le_refl _ | exact Nat.le_of_lt hlow) _)
  | cons t r =>
   rw [hbs] at hBT
   have HTL := Lib.hid (show t.text.length ≤ 10000000 from Nat.le_trans (tok_text hbs) HZL.out)
   have HCC := Lib.hid (codeP_cons hbs)
   obtain ⟨bd, rfl, hbl, d0, d1, -⟩ := hBT.2 0 (by simp)
   rw [show bd.add (0 * 2) = bd by simp [Addr.add]] at d0 d1
   simp only [List.getElem_cons_zero] at d0 d1
   have hrl : (0 : Int) < ((t :: r).length : Int) := by simp <;> omega
   have hrn : 0 < (t :: r).length := by simp
   obtain ⟨M, hM⟩ : ∃ M, (t :: r).length = M := ⟨_, rfl⟩
   rw [hM] at hrl hrn
   rw [hM]
   clear hM hBT hbs
   by_cases hk1 : t.kind = 1
   ·have HC := Lib.hid (show readPt s up depth i j digest = ⟨P1.up, P1.depth, P1.start, P1.body, P1.stop, P1.typ, smallP t.text⟩ by rw [HF2.out, HCC.out, if_pos hk1])
    have hk2 : (t.kind == 1) = true := by rw [hk1]; rfl
    rw [hk1] at d0
    clear hk1
    go_wp2_with fail
    refine (mlower_any t.text W8 (by have := HTL.out; omega)).mono ?_
    rintro e W9 ⟨rfl, hb9⟩
    have HS9 := Lib.hid (HS8.out.below hb9)
    clear hb9 c0 c1 c2 c3 c4 c5 c6 c7 c8 q8
    have c0 := cells_at HS9.out.box 0 rfl
    have c1 := cells_at HS9.out.box 1 rfl
    have c2 := cells_at HS9.out.box 2 rfl
    have c3 := cells_at HS9.out.box 3 rfl
    have c4 := cells_at HS9.out.box 4 rfl
    have c5 := cells_at HS9.out.box 5 rfl
    have c6 := cells_at HS9.out.box 6 rfl
    have c7 := cells_at HS9.out.box 7 rfl
    have c8 := cells_at HS9.out.box 8 rfl
    rw [HC1.out] at c8
    have q8 := cells_free HS9.out.box 8
    have p0 := cells_at HS9.out.res 0 (u := .int .i64 0) rfl
    have p1 := cells_at HS9.out.res 1 (u := .int .i64 0) rfl
    have p2 := cells_at HS9.out.res 2 (u := .int .i64 0) rfl
    have p3 := cells_at HS9.out.res 3 (u := .int .i64 0) rfl
    have p4 := cells_at HS9.out.res 4 (u := .int .i64 0) rfl
    have p5 := cells_at HS9.out.res 5 (u := .string ⟨#[]⟩) rfl
    have p6 := cells_at HS9.out.res 6 (u := .string ⟨#[]⟩) rfl
    have p7 := cells_at HS9.out.res 7 (u := .slice none 0 0) rfl
    have p8 := cells_at HS9.out.res 8 (u := .string ⟨#[]⟩) rfl
    have qq := fun i => cells_free HS9.out.res i
    have q0 := qq 0
    have q1 := qq 1
    have q2 := qq 2
    have q3 := qq 3
    have q4 := qq 4
    have q5 := qq 5
    have q6 := qq 6
    have q7 := qq 7
    have q9 := qq 8
    clear qq
    go_wp2
    refine bodyPost_ret (v := prtW ⟨P1.up, P1.depth, P1.start, P1.body, P1.stop, P1.typ, smallP t.text⟩ (.slice TA tn tc)) (by simp [prtW, results, Tryz.results35, go_sem, p0, p1, p2, p3, p4, p5, p6, p7, p8]; try rfl) rfl ?_
    refine prt_fin HC.out ?_ ?_
    ·refine OwnPars.more (B := b + 1) ?_ (by omega)
     repeat (first | with_reducible exact HS9.out.own | refine own_set1 ?_ (by omega))
    ·repeat (first | with_reducible exact HS9.out.bel | refine Below.setCell ?_ (by first | exact Nat.le_refl _ | exact Nat.le_of_lt hlow) _)
   ·have HC := Lib.hid (show readPt s up depth i j digest = ⟨P1.up, P1.depth, P1.start, P1.body, P1.stop, P1.typ, []⟩ by rw [HF2.out, HCC.out, if_neg hk1])
    have hk2 : (t.kind == 1) = false := by simpa using hk1
    clear hk1 q8
    have p0 := cells_at HS8.out.res 0 (u := .int .i64 0) rfl
    have p1 := cells_at HS8.out.res 1 (u := .int .i64 0) rfl
    have p2 := cells_at HS8.out.res 2 (u := .int .i64 0) rfl
    have p3 := cells_at HS8.out.res 3 (u := .int .i64 0) rfl
    have p4 := cells_at HS8.out.res 4 (u := .int .i64 0) rfl
    have p5 := cells_at HS8.out.res 5 (u := .string ⟨#[]⟩) rfl
    have p6 := cells_at HS8.out.res 6 (u := .string ⟨#[]⟩) rfl
    have p7 := cells_at HS8.out.res 7 (u := .slice none 0 0) rfl
    have p8 := cells_at HS8.out.res 8 (u := .string ⟨#[]⟩) rfl
    have qq := fun i => cells_free HS8.out.res i
    have q0 := qq 0
    have q1 := qq 1
    have q2 := qq 2
    have q3 := qq 3
    have q4 := qq 4
    have q5 := qq 5
    have q6 := qq 6
    have q7 := qq 7
    have q9 := qq 8
    clear qq
    go_wp2
    refine bodyPost_ret (v := prtW ⟨P1.up, P1.depth, P1.start, P1.body, P1.stop, P1.typ, []⟩ (.slice TA tn tc)) (by simp [prtW, results, Tryz.results35, go_sem, p0, p1, p2, p3, p4, p5, p6, p7, p8]; try rfl) rfl ?_
    refine prt_fin HC.out ?_ ?_
    ·refine OwnPars.more (B := b + 1) ?_ (by omega)
     repeat (first | with_reducible exact HS8.out.own | refine own_set1 ?_ (by omega))
    ·repeat (first | with_reducible exact HS8.out.bel | refine Below.setCell ?_ (by first | exact Nat.le_refl _ | exact Nat.le_of_lt hlow) _)
 | false =>
  cases digest with
  | false =>
   go_wp2_with fail
   refine (parse_any y W3 hol (HWT.out _ HS3.out.bel)).mono ?_
   rintro e W4 ⟨v, rfl, hov, hb4⟩
   have HS4 := Lib.hid (HS3.out.below hb4)
   obtain ⟨⟨⟨K, S, ps⟩, pb⟩, hpt⟩ : ∃ q, parseT y = q := ⟨_, rfl⟩
   rw [hpt] at HKD hov
   dsimp only at HKD hov
   rw [hpt]
   dsimp only
   obtain ⟨TA, tc, rfl, -, -, -⟩ := hov.reads
   obtain ⟨tn, htn⟩ : ∃ t, ps.length = t := ⟨_, rfl⟩
   have HOV := Lib.hid (hov.more (B' := b + 1) (heap_lt HS3.out.box))
   rw [htn] at HOV ⊢
   clear hov hb4 hpt hol htn
   have HKV := Lib.hid (show kindP14 fs false = ⟨K, S, ps⟩ by rw [HKD.out]; simp)
   have c5 := cells_at HS4.out.box 5 rfl
   have c6 := cells_at HS4.out.box 6 rfl
   have c7 := cells_at HS4.out.box 7 rfl
   have q5 := cells_free HS4.out.box 5
   have q6 := cells_free HS4.out.box 6
   have q7 := cells_free HS4.out.box 7
   obtain ⟨P1, hP1⟩ : ∃ p : Prt, (⟨P0.up, P0.depth, P0.start, P0.body, P0.stop, ⟨K, S, ps⟩, P0.code⟩ : Prt) = p := ⟨_, rfl⟩
   have HF1 := Lib.hid (show readPt s up depth i j false = ⟨P1.up, P1.depth, P1.start, P1.body, P1.stop, P1.typ, codeP ((getP fs cteName).getD [])⟩ by rw [HF.out, HKV.out, ← hP1, ← hP0])
   have HC1 := Lib.hid (show P1.code = [] by rw [← hP1, ← hP0])
   have HS5' := Lib.hid (show RdSt w A m fs b P1 (.slice TA tn tc) (((W4.setCell ⟨b, 5, none⟩ (.string (ba K))).setCell ⟨b, 6, none⟩ (.string (ba S))).setCell ⟨b, 7, none⟩ (.slice TA tn tc)) from by
    have h := HS4.out
    have hlo : w.heap.size ≠ b := by have := h.low; omega
    refine ⟨by rw [← hP1]; exact h.box.typ K S ps (.slice TA tn tc), h.low, ?_, ?_, ((h.bel.setCell (Nat.le_of_lt h.low) _).setCell (Nat.le_of_lt h.low) _).setCell (Nat.le_of_lt h.low) _, ?_⟩
    ·rw [heap_setCell_other _ ⟨b, 7, none⟩ _ _ hlo, heap_setCell_other _ ⟨b, 6, none⟩ _ _ hlo, heap_setCell_other _ ⟨b, 5, none⟩ _ _ hlo]
     exact h.res
    ·rw [← hP1]
     exact own_set1 (own_set1 (own_set1 HOV.out (by omega)) (by omega)) (by omega)
    ·exact h.fld.below ((((Below.refl b W4).setCell (p := ⟨b, 5, none⟩) (Nat.le_refl b) _).setCell (p := ⟨b, 6, none⟩) (Nat.le_refl b) _).setCell (p := ⟨b, 7, none⟩) (Nat.le_refl b) _))
   obtain ⟨W5, hW5⟩ : ∃ W, ((W4.setCell ⟨b, 5, none⟩ (.string (ba K))).setCell ⟨b, 6, none⟩ (.string (ba S))).setCell ⟨b, 7, none⟩ (.slice TA tn tc) = W := ⟨_, rfl⟩
   have HS5 := Lib.hid (show RdSt w A m fs b P1 (.slice TA tn tc) W5 by rw [← hW5]; exact HS5'.out)
   go_wp2_with fail
   clear hW5 HS5' HS4 HOV c5 c6 c7 q5 q6 q7 HS3
   have HG2 := Lib.hid (show Calls Tryz.prog 75 #[.slice A m c, .string ⟨#[99, 111, 110, 116, 101, 110, 116, 45, 116, 114, 97, 110, 115, 102, 101, 114, 45, 101, 110, 99, 111, 100, 105, 110, 103]⟩] W5 (GetPost9 W5 (getP fs cteName)) from hget_any fs A m c cteName W5 HS5.out.flds HFN.out HOK.out (by decide) (HWT.out _ HS5.out.bel))
   have hzl : ((getP fs cteName).getD []).length ≤ 10000000 := getD_len fun v hv => getP_len HVL.out hv
   unfold GetPost9 at HG2
   obtain ⟨z, hz⟩ : ∃ z, (getP fs cteName).getD [] = z := ⟨_, rfl⟩
   rw [hz] at HG2 hzl
   have HF2 := Lib.hid (show readPt s up depth i j false = ⟨P1.up, P1.depth, P1.start, P1.body, P1.stop, P1.typ, codeP z⟩ by rw [HF1.out, hz])
   have HZL := Lib.hid hzl
   clear hz hzl
   refine HG2.out.mono ?_
   rintro e W6 ⟨rfl, hb6⟩
   have HS6 := Lib.hid (HS5.out.below hb6)
   clear hb6
   go_wp2_with fail
   refine (scan_any z W6 (by have := HZL.out; omega)).mono ?_
   rintro e W7 ⟨sv, rfl, hsv, hb7⟩
   obtain ⟨SA, sc, rfl, -, -, hST⟩ := hsv.reads
   have HS7 := Lib.hid (HS6.out.below hb7)
   have HSL := Lib.hid (show (scanP z).length ≤ 1000000000 by have := scanP_len z; have := HZL.out; omega)
   clear hsv hb7
   go_wp2_with fail
   refine (bare_any (scanP z) SA _ sc W7 hST HSL.out).mono ?_
   rintro e W8 ⟨bv, rfl, hbv, hb8⟩
   obtain ⟨BA, bc, rfl, -, -, hBT⟩ := hbv.reads
   have HS8 := Lib.hid (HS7.out.below hb8)
   clear hbv hb8 hST
   have c0 := cells_at HS8.out.box 0 rfl
   have c1 := cells_at HS8.out.box 1 rfl
   have c2 := cells_at HS8.out.box 2 rfl
   have c3 := cells_at HS8.out.box 3 rfl
   have c4 := cells_at HS8.out.box 4 rfl
   have c5 := cells_at HS8.out.box 5 rfl
   have c6 := cells_at HS8.out.box 6 rfl
   have c7 := cells_at HS8.out.box 7 rfl
   have c8 := cells_at HS8.out.box 8 rfl
   rw [HC1.out] at c8
   have q8 := cells_free HS8.out.box 8
   have hlow := HS8.out.low
   cases hbs : bareP (scanP z) with
   | nil =>
    rw [hbs] at hBT
    have HC := Lib.hid (show readPt s up depth i j false = ⟨P1.up, P1.depth, P1.start, P1.body, P1.stop, P1.typ, []⟩ by rw [HF2.out, codeP_nil hbs])
    clear hBT hbs q8
    have p0 := cells_at HS8.out.res 0 (u := .int .i64 0) rfl
    have p1 := cells_at HS8.out.res 1 (u := .int .i64 0) rfl
    have p2 := cells_at HS8.out.res 2 (u := .int .i64 0) rfl
    have p3 := cells_at HS8.out.res 3 (u := .int .i64 0) rfl
    have p4 := cells_at HS8.out.res 4 (u := .int .i64 0) rfl
    have p5 := cells_at HS8.out.res 5 (u := .string ⟨#[]⟩) rfl
    have p6 := cells_at HS8.out.res 6 (u := .string ⟨#[]⟩) rfl
    have p7 := cells_at HS8.out.res 7 (u := .slice none 0 0) rfl
    have p8 := cells_at HS8.out.res 8 (u := .string ⟨#[]⟩) rfl
    have qq := fun i => cells_free HS8.out.res i
    have q0 := qq 0
    have q1 := qq 1
    have q2 := qq 2
    have q3 := qq 3
    have q4 := qq 4
    have q5 := qq 5
    have q6 := qq 6
    have q7 := qq 7
    have q9 := qq 8
    clear qq
    go_wp2
    refine bodyPost_ret (v := prtW ⟨P1.up, P1.depth, P1.start, P1.body, P1.stop, P1.typ, []⟩ (.slice TA tn tc)) (by simp [prtW, results, Tryz.results35, go_sem, p0, p1, p2, p3, p4, p5, p6, p7, p8]; try rfl) rfl ?_
    refine prt_fin HC.out ?_ ?_
    ·refine OwnPars.more (B := b + 1) ?_ (by omega)
     repeat (first | with_reducible exact HS8.out.own | refine own_set1 ?_ (by omega))
    ·repeat (first | with_reducible exact HS8.out.bel | refine Below.setCell ?_ (by first | exact Nat.le_refl _ | exact Nat.le_of_lt hlow) _)
   | cons t r =>
    rw [hbs] at hBT
    have HTL := Lib.hid (show t.text.length ≤ 10000000 from Nat.le_trans (tok_text hbs) HZL.out)
    have HCC := Lib.hid (codeP_cons hbs)
    obtain ⟨bd, rfl, hbl, d0, d1, -⟩ := hBT.2 0 (by simp)
    rw [show bd.add (0 * 2) = bd by simp [Addr.add]] at d0 d1
    simp only [List.getElem_cons_zero] at d0 d1
    have hrl : (0 : Int) < ((t :: r).length : Int) := by simp <;> omega
    have hrn : 0 < (t :: r).length := by simp
    obtain ⟨M, hM⟩ : ∃ M, (t :: r).length = M := ⟨_, rfl⟩
    rw [hM] at hrl hrn
    rw [hM]
    clear hM hBT hbs
    by_cases hk1 : t.kind = 1
    ·have HC := Lib.hid (show readPt s up depth i j false = ⟨P1.up, P1.depth, P1.start, P1.body, P1.stop, P1.typ, smallP t.text⟩ by rw [HF2.out, HCC.out, if_pos hk1])
     have hk2 : (t.kind == 1) = true := by rw [hk1]; rfl
     rw [hk1] at d0
     clear hk1
     go_wp2_with fail
     refine (mlower_any t.text W8 (by have := HTL.out; omega)).mono ?_
     rintro e W9 ⟨rfl, hb9⟩
     have HS9 := Lib.hid (HS8.out.below hb9)
     clear hb9 c0 c1 c2 c3 c4 c5 c6 c7 c8 q8
     have c0 := cells_at HS9.out.box 0 rfl
     have c1 := cells_at HS9.out.box 1 rfl
     have c2 := cells_at HS9.out.box 2 rfl
     have c3 := cells_at HS9.out.box 3 rfl
     have c4 := cells_at HS9.out.box 4 rfl
     have c5 := cells_at HS9.out.box 5 rfl
     have c6 := cells_at HS9.out.box 6 rfl
     have c7 := cells_at HS9.out.box 7 rfl
     have c8 := cells_at HS9.out.box 8 rfl
     rw [HC1.out] at c8
     have q8 := cells_free HS9.out.box 8
     have p0 := cells_at HS9.out.res 0 (u := .int .i64 0) rfl
     have p1 := cells_at HS9.out.res 1 (u := .int .i64 0) rfl
     have p2 := cells_at HS9.out.res 2 (u := .int .i64 0) rfl
     have p3 := cells_at HS9.out.res 3 (u := .int .i64 0) rfl
     have p4 := cells_at HS9.out.res 4 (u := .int .i64 0) rfl
     have p5 := cells_at HS9.out.res 5 (u := .string ⟨#[]⟩) rfl
     have p6 := cells_at HS9.out.res 6 (u := .string ⟨#[]⟩) rfl
     have p7 := cells_at HS9.out.res 7 (u := .slice none 0 0) rfl
     have p8 := cells_at HS9.out.res 8 (u := .string ⟨#[]⟩) rfl
     have qq := fun i => cells_free HS9.out.res i
     have q0 := qq 0
     have q1 := qq 1
     have q2 := qq 2
     have q3 := qq 3
     have q4 := qq 4
     have q5 := qq 5
     have q6 := qq 6
     have q7 := qq 7
     have q9 := qq 8
     clear qq
     go_wp2
     refine bodyPost_ret (v := prtW ⟨P1.up, P1.depth, P1.start, P1.body, P1.stop, P1.typ, smallP t.text⟩ (.slice TA tn tc)) (by simp [prtW, results, Tryz.results35, go_sem, p0, p1, p2, p3, p4, p5, p6, p7, p8]; try rfl) rfl ?_
     refine prt_fin HC.out ?_ ?_
     ·refine OwnPars.more (B := b + 1) ?_ (by omega)
      repeat (first | with_reducible exact HS9.out.own | refine own_set1 ?_ (by omega))
     ·repeat (first | with_reducible exact HS9.out.bel | refine Below.setCell ?_ (by first | exact Nat.le_refl _ | exact Nat.le_of_lt hlow) _)
    ·have HC := Lib.hid (show readPt s up depth i j false = ⟨P1.up, P1.depth, P1.start, P1.body, P1.stop, P1.typ, []⟩ by rw [HF2.out, HCC.out, if_neg hk1])
     have hk2 : (t.kind == 1) = false := by simpa using hk1
     clear hk1 q8
     have p0 := cells_at HS8.out.res 0 (u := .int .i64 0) rfl
     have p1 := cells_at HS8.out.res 1 (u := .int .i64 0) rfl
     have p2 := cells_at HS8.out.res 2 (u := .int .i64 0) rfl
     have p3 := cells_at HS8.out.res 3 (u := .int .i64 0) rfl
     have p4 := cells_at HS8.out.res 4 (u := .int .i64 0) rfl
     have p5 := cells_at HS8.out.res 5 (u := .string ⟨#[]⟩) rfl
     have p6 := cells_at HS8.out.res 6 (u := .string ⟨#[]⟩) rfl
     have p7 := cells_at HS8.out.res 7 (u := .slice none 0 0) rfl
     have p8 := cells_at HS8.out.res 8 (u := .string ⟨#[]⟩) rfl
     have qq := fun i => cells_free HS8.out.res i
     have q0 := qq 0
     have q1 := qq 1
     have q2 := qq 2
     have q3 := qq 3
     have q4 := qq 4
     have q5 := qq 5
     have q6 := qq 6
     have q7 := qq 7
     have q9 := qq 8
     clear qq
     go_wp2
     refine bodyPost_ret (v := prtW ⟨P1.up, P1.depth, P1.start, P1.body, P1.stop, P1.typ, []⟩ (.slice TA tn tc)) (by simp [prtW, results, Tryz.results35, go_sem, p0, p1, p2, p3, p4, p5, p6, p7, p8]; try rfl) rfl ?_
     refine prt_fin HC.out ?_ ?_
     ·refine OwnPars.more (B := b + 1) ?_ (by omega)
      repeat (first | with_reducible exact HS8.out.own | refine own_set1 ?_ (by omega))
     ·repeat (first | with_reducible exact HS8.out.bel | refine Below.setCell ?_ (by first | exact Nat.le_refl _ | exact Nat.le_of_lt hlow) _)
  | true =>
   have HS4 := Lib.hid HS3.out
   have HKV := Lib.hid (show kindP14 fs true = ⟨wMessage, wRfc, []⟩ by rw [HKD.out]; simp)
   clear hol
   have c5 := cells_at HS4.out.box 5 rfl
   have c6 := cells_at HS4.out.box 6 rfl
   have c7 := cells_at HS4.out.box 7 rfl
   have q5 := cells_free HS4.out.box 5
   have q6 := cells_free HS4.out.box 6
   have q7 := cells_free HS4.out.box 7
   obtain ⟨P1, hP1⟩ : ∃ p : Prt, (⟨P0.up, P0.depth, P0.start, P0.body, P0.stop, ⟨wMessage, wRfc, []⟩, P0.code⟩ : Prt) = p := ⟨_, rfl⟩
   have HF1 := Lib.hid (show readPt s up depth i j true = ⟨P1.up, P1.depth, P1.start, P1.body, P1.stop, P1.typ, codeP ((getP fs cteName).getD [])⟩ by rw [HF.out, HKV.out, ← hP1, ← hP0])
   have HC1 := Lib.hid (show P1.code = [] by rw [← hP1, ← hP0])
   have HS5' := Lib.hid (show RdSt w A m fs b P1 (.slice none 0 0) (((W3.setCell ⟨b, 5, none⟩ (.string ⟨#[109, 101, 115, 115, 97, 103, 101]⟩)).setCell ⟨b, 6, none⟩ (.string ⟨#[114, 102, 99, 56, 50, 50]⟩)).setCell ⟨b, 7, none⟩ (.slice none 0 0)) from by
    have h := HS4.out
    have hlo : w.heap.size ≠ b := by have := h.low; omega
    refine ⟨by rw [← hP1]; exact h.box.typ wMessage wRfc [] (.slice none 0 0), h.low, ?_, ?_, ((h.bel.setCell (Nat.le_of_lt h.low) _).setCell (Nat.le_of_lt h.low) _).setCell (Nat.le_of_lt h.low) _, ?_⟩
    ·rw [heap_setCell_other _ ⟨b, 7, none⟩ _ _ hlo, heap_setCell_other _ ⟨b, 6, none⟩ _ _ hlo, heap_setCell_other _ ⟨b, 5, none⟩ _ _ hlo]
     exact h.res
    ·rw [← hP1]
     exact own_set1 (own_set1 (own_set1 (OwnPars.nil_ _ _) (by omega)) (by omega)) (by omega)
    ·exact h.fld.below ((((Below.refl b W3).setCell (p := ⟨b, 5, none⟩) (Nat.le_refl b) _).setCell (p := ⟨b, 6, none⟩) (Nat.le_refl b) _).setCell (p := ⟨b, 7, none⟩) (Nat.le_refl b) _))
   obtain ⟨W5, hW5⟩ : ∃ W, ((W3.setCell ⟨b, 5, none⟩ (.string ⟨#[109, 101, 115, 115, 97, 103, 101]⟩)).setCell ⟨b, 6, none⟩ (.string ⟨#[114, 102, 99, 56, 50, 50]⟩)).setCell ⟨b, 7, none⟩ (.slice none 0 0) = W := ⟨_, rfl⟩
   have HS5 := Lib.hid (show RdSt w A m fs b P1 (.slice none 0 0) W5 by rw [← hW5]; exact HS5'.out)
   go_wp2_with fail
   clear hW5 HS5' HS4 c5 c6 c7 q5 q6 q7 HS3
   have HG2 := Lib.hid (show Calls Tryz.prog 75 #[.slice A m c, .string ⟨#[99, 111, 110, 116, 101, 110, 116, 45, 116, 114, 97, 110, 115, 102, 101, 114, 45, 101, 110, 99, 111, 100, 105, 110, 103]⟩] W5 (GetPost9 W5 (getP fs cteName)) from hget_any fs A m c cteName W5 HS5.out.flds HFN.out HOK.out (by decide) (HWT.out _ HS5.out.bel))
   have hzl : ((getP fs cteName).getD []).length ≤ 10000000 := getD_len fun v hv => getP_len HVL.out hv
   unfold GetPost9 at HG2
   obtain ⟨z, hz⟩ : ∃ z, (getP fs cteName).getD [] = z := ⟨_, rfl⟩
   rw [hz] at HG2 hzl
   have HF2 := Lib.hid (show readPt s up depth i j true = ⟨P1.up, P1.depth, P1.start, P1.body, P1.stop, P1.typ, codeP z⟩ by rw [HF1.out, hz])
   have HZL := Lib.hid hzl
   clear hz hzl
   refine HG2.out.mono ?_
   rintro e W6 ⟨rfl, hb6⟩
   have HS6 := Lib.hid (HS5.out.below hb6)
   clear hb6
   go_wp2_with fail
   refine (scan_any z W6 (by have := HZL.out; omega)).mono ?_
   rintro e W7 ⟨sv, rfl, hsv, hb7⟩
   obtain ⟨SA, sc, rfl, -, -, hST⟩ := hsv.reads
   have HS7 := Lib.hid (HS6.out.below hb7)
   have HSL := Lib.hid (show (scanP z).length ≤ 1000000000 by have := scanP_len z; have := HZL.out; omega)
   clear hsv hb7
   go_wp2_with fail
   refine (bare_any (scanP z) SA _ sc W7 hST HSL.out).mono ?_
   rintro e W8 ⟨bv, rfl, hbv, hb8⟩
   obtain ⟨BA, bc, rfl, -, -, hBT⟩ := hbv.reads
   have HS8 := Lib.hid (HS7.out.below hb8)
   clear hbv hb8 hST
   have c0 := cells_at HS8.out.box 0 rfl
   have c1 := cells_at HS8.out.box 1 rfl
   have c2 := cells_at HS8.out.box 2 rfl
   have c3 := cells_at HS8.out.box 3 rfl
   have c4 := cells_at HS8.out.box 4 rfl
   have c5 := cells_at HS8.out.box 5 rfl
   have c6 := cells_at HS8.out.box 6 rfl
   have c7 := cells_at HS8.out.box 7 rfl
   have c8 := cells_at HS8.out.box 8 rfl
   rw [HC1.out] at c8
   have q8 := cells_free HS8.out.box 8
   have hlow := HS8.out.low
   cases hbs : bareP (scanP z) with
   | nil =>
    rw [hbs] at hBT
    have HC := Lib.hid (show readPt s up depth i j true = ⟨P1.up, P1.depth, P1.start, P1.body, P1.stop, P1.typ, []⟩ by rw [HF2.out, codeP_nil hbs])
    clear hBT hbs q8
    have p0 := cells_at HS8.out.res 0 (u := .int .i64 0) rfl
    have p1 := cells_at HS8.out.res 1 (u := .int .i64 0) rfl
    have p2 := cells_at HS8.out.res 2 (u := .int .i64 0) rfl
    have p3 := cells_at HS8.out.res 3 (u := .int .i64 0) rfl
    have p4 := cells_at HS8.out.res 4 (u := .int .i64 0) rfl
    have p5 := cells_at HS8.out.res 5 (u := .string ⟨#[]⟩) rfl
    have p6 := cells_at HS8.out.res 6 (u := .string ⟨#[]⟩) rfl
    have p7 := cells_at HS8.out.res 7 (u := .slice none 0 0) rfl
    have p8 := cells_at HS8.out.res 8 (u := .string ⟨#[]⟩) rfl
    have qq := fun i => cells_free HS8.out.res i
    have q0 := qq 0
    have q1 := qq 1
    have q2 := qq 2
    have q3 := qq 3
    have q4 := qq 4
    have q5 := qq 5
    have q6 := qq 6
    have q7 := qq 7
    have q9 := qq 8
    clear qq
    go_wp2
    refine bodyPost_ret (v := prtW ⟨P1.up, P1.depth, P1.start, P1.body, P1.stop, P1.typ, []⟩ (.slice none 0 0)) (by simp [prtW, results, Tryz.results35, go_sem, p0, p1, p2, p3, p4, p5, p6, p7, p8]; try rfl) rfl ?_
    refine prt_fin HC.out ?_ ?_
    ·refine OwnPars.more (B := b + 1) ?_ (by omega)
     repeat (first | with_reducible exact HS8.out.own | refine own_set1 ?_ (by omega))
    ·repeat (first | with_reducible exact HS8.out.bel | refine Below.setCell ?_ (by first | exact Nat.le_refl _ | exact Nat.le_of_lt hlow) _)
   | cons t r =>
    rw [hbs] at hBT
    have HTL := Lib.hid (show t.text.length ≤ 10000000 from Nat.le_trans (tok_text hbs) HZL.out)
    have HCC := Lib.hid (codeP_cons hbs)
    obtain ⟨bd, rfl, hbl, d0, d1, -⟩ := hBT.2 0 (by simp)
    rw [show bd.add (0 * 2) = bd by simp [Addr.add]] at d0 d1
    simp only [List.getElem_cons_zero] at d0 d1
    have hrl : (0 : Int) < ((t :: r).length : Int) := by simp <;> omega
    have hrn : 0 < (t :: r).length := by simp
    obtain ⟨M, hM⟩ : ∃ M, (t :: r).length = M := ⟨_, rfl⟩
    rw [hM] at hrl hrn
    rw [hM]
    clear hM hBT hbs
    by_cases hk1 : t.kind = 1
    ·have HC := Lib.hid (show readPt s up depth i j true = ⟨P1.up, P1.depth, P1.start, P1.body, P1.stop, P1.typ, smallP t.text⟩ by rw [HF2.out, HCC.out, if_pos hk1])
     have hk2 : (t.kind == 1) = true := by rw [hk1]; rfl
     rw [hk1] at d0
     clear hk1
     go_wp2_with fail
     refine (mlower_any t.text W8 (by have := HTL.out; omega)).mono ?_
     rintro e W9 ⟨rfl, hb9⟩
     have HS9 := Lib.hid (HS8.out.below hb9)
     clear hb9 c0 c1 c2 c3 c4 c5 c6 c7 c8 q8
     have c0 := cells_at HS9.out.box 0 rfl
     have c1 := cells_at HS9.out.box 1 rfl
     have c2 := cells_at HS9.out.box 2 rfl
     have c3 := cells_at HS9.out.box 3 rfl
     have c4 := cells_at HS9.out.box 4 rfl
     have c5 := cells_at HS9.out.box 5 rfl
     have c6 := cells_at HS9.out.box 6 rfl
     have c7 := cells_at HS9.out.box 7 rfl
     have c8 := cells_at HS9.out.box 8 rfl
     rw [HC1.out] at c8
     have q8 := cells_free HS9.out.box 8
     have p0 := cells_at HS9.out.res 0 (u := .int .i64 0) rfl
     have p1 := cells_at HS9.out.res 1 (u := .int .i64 0) rfl
     have p2 := cells_at HS9.out.res 2 (u := .int .i64 0) rfl
     have p3 := cells_at HS9.out.res 3 (u := .int .i64 0) rfl
     have p4 := cells_at HS9.out.res 4 (u := .int .i64 0) rfl
     have p5 := cells_at HS9.out.res 5 (u := .string ⟨#[]⟩) rfl
     have p6 := cells_at HS9.out.res 6 (u := .string ⟨#[]⟩) rfl
     have p7 := cells_at HS9.out.res 7 (u := .slice none 0 0) rfl
     have p8 := cells_at HS9.out.res 8 (u := .string ⟨#[]⟩) rfl
     have qq := fun i => cells_free HS9.out.res i
     have q0 := qq 0
     have q1 := qq 1
     have q2 := qq 2
     have q3 := qq 3
     have q4 := qq 4
     have q5 := qq 5
     have q6 := qq 6
     have q7 := qq 7
     have q9 := qq 8
     clear qq
     go_wp2
     refine bodyPost_ret (v := prtW ⟨P1.up, P1.depth, P1.start, P1.body, P1.stop, P1.typ, smallP t.text⟩ (.slice none 0 0)) (by simp [prtW, results, Tryz.results35, go_sem, p0, p1, p2, p3, p4, p5, p6, p7, p8]; try rfl) rfl ?_
     refine prt_fin HC.out ?_ ?_
     ·refine OwnPars.more (B := b + 1) ?_ (by omega)
      repeat (first | with_reducible exact HS9.out.own | refine own_set1 ?_ (by omega))
     ·repeat (first | with_reducible exact HS9.out.bel | refine Below.setCell ?_ (by first | exact Nat.le_refl _ | exact Nat.le_of_lt hlow) _)
    ·have HC := Lib.hid (show readPt s up depth i j true = ⟨P1.up, P1.depth, P1.start, P1.body, P1.stop, P1.typ, []⟩ by rw [HF2.out, HCC.out, if_neg hk1])
     have hk2 : (t.kind == 1) = false := by simpa using hk1
     clear hk1 q8
     have p0 := cells_at HS8.out.res 0 (u := .int .i64 0) rfl
     have p1 := cells_at HS8.out.res 1 (u := .int .i64 0) rfl
     have p2 := cells_at HS8.out.res 2 (u := .int .i64 0) rfl
     have p3 := cells_at HS8.out.res 3 (u := .int .i64 0) rfl
     have p4 := cells_at HS8.out.res 4 (u := .int .i64 0) rfl
     have p5 := cells_at HS8.out.res 5 (u := .string ⟨#[]⟩) rfl
     have p6 := cells_at HS8.out.res 6 (u := .string ⟨#[]⟩) rfl
     have p7 := cells_at HS8.out.res 7 (u := .slice none 0 0) rfl
     have p8 := cells_at HS8.out.res 8 (u := .string ⟨#[]⟩) rfl
     have qq := fun i => cells_free HS8.out.res i
     have q0 := qq 0
     have q1 := qq 1
     have q2 := qq 2
     have q3 := qq 3
     have q4 := qq 4
     have q5 := qq 5
     have q6 := qq 6
     have q7 := qq 7
     have q9 := qq 8
     clear qq
     go_wp2
     refine bodyPost_ret (v := prtW ⟨P1.up, P1.depth, P1.start, P1.body, P1.stop, P1.typ, []⟩ (.slice none 0 0)) (by simp [prtW, results, Tryz.results35, go_sem, p0, p1, p2, p3, p4, p5, p6, p7, p8]; try rfl) rfl ?_
     refine prt_fin HC.out ?_ ?_
     ·refine OwnPars.more (B := b + 1) ?_ (by omega)
      repeat (first | with_reducible exact HS8.out.own | refine own_set1 ?_ (by omega))
     ·repeat (first | with_reducible exact HS8.out.bel | refine Below.setCell ?_ (by first | exact Nat.le_refl _ | exact Nat.le_of_lt hlow) _)
end Go.Proofs.YthidbmeaccpjdaaGreatDoor
